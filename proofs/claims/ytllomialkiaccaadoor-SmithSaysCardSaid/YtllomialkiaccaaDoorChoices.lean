/- Contract of smith.choices: the lists of so many of the numbers below n. -/
import Derived.Test.YtllomialkiaccaaDoorRangeM
import Derived.Test.YtllomialkiaccaaDoorSmMath
import Derived.Test.YtllomialkiaccaaDoorEach
namespace Go.Proofs.YtllomialkiaccaaDoor
open Go Go.RowKit Go.Shelf
set_option linter.unusedVariables false
set_option linter.unusedSimpArgs false
attribute [local go_sem] Oper.semAt_some

/-- a slice that is yielded: where it lies, and its numbers -/
abbrev Sl := (Option Addr × Nat) × List Nat
def encS (x : Sl) : Array Value := #[.slice x.1.1 x.2.length x.1.2]
def natI (l : List Nat) : List Int := List.map (fun i : Nat => (i : Int)) l
theorem natI_len (l : List Nat) : (natI l).length = l.length := by simp [natI]
theorem natI_snoc (l : List Nat) (i : Nat) : natI (l ++ [i]) = natI l ++ [(i : Int)] := by simp [natI]
def MemS (N n many : Nat) (x : Sl) (W : World) : Prop := IntsAt W x.1.1 x.2.length (natI x.2) ∧ (∀ b o t, x.1.1 = some ⟨b, o, t⟩ → N ≤ b) ∧ x.2.length = many ∧ ∀ i ∈ x.2, i < n
/-- what the function needs of the rounds: its two boxes -/
def KpC (Bn Bm : Nat) (A B : World) : Prop := (∀ v, A.cell? ⟨Bn, 0, none⟩ = some v → B.cell? ⟨Bn, 0, none⟩ = some v) ∧ (∀ v, A.cell? ⟨Bm, 0, none⟩ = some v → B.cell? ⟨Bm, 0, none⟩ = some v) ∧ A.heap.size ≤ B.heap.size
theorem KpC.trans {Bn Bm : Nat} {A B C : World} (h : KpC Bn Bm A B) (k : KpC Bn Bm B C) : KpC Bn Bm A C := ⟨fun v hv => k.1 v (h.1 v hv), fun v hv => k.2.1 v (h.2.1 v hv), Nat.le_trans h.2.2 k.2.2⟩
theorem bits_small {E : Nat} (h : E < 8) : bits BinOp.and IntKind.i64 (E : Int) 1 = ((E % 2 : Nat) : Int) := by
  match E, h with
  | 0, _ => decide
  | 1, _ => decide
  | 2, _ => decide
  | 3, _ => decide
  | 4, _ => decide
  | 5, _ => decide
  | 6, _ => decide
  | 7, _ => decide
theorem bits_len (s : Nat) : ∀ k, (bitsTo s k).length ≤ k
  | 0 => Nat.le_refl _
  | k + 1 => by
    have := bits_len s k
    unfold bitsTo
    split <;> simp <;> omega

theorem bits_lt (s : Nat) : ∀ k, ∀ i ∈ bitsTo s k, i < k
  | 0 => fun i h => by cases h
  | k + 1 => by
    intro i h
    have := bits_lt s k
    unfold bitsTo at h
    split at h
    · rcases List.mem_append.1 h with h | h
      · have := this i h; omega
      · have : i = k := by simpa using h
        omega
    · have := this i h; omega

theorem Choices_in (F : Fence) (n_ : Nat) (hF : F.fn 23) (hro : F.round = none) (n many : Int) (w : World) :
    CallsIn F n_ Tryd.prog 23 #[.int .i64 n, .int .i64 many] w fun e w' => e = .returned (.func (.func 30) #[] #[.pointer (some ⟨w.heap.size, 0, none⟩), .pointer (some ⟨w.heap.size + 1, 0, none⟩)]) ∧
      w' = (w.alloc (.cells #[.int .i64 n] 3)).alloc (.cells #[.int .i64 many] 3) := by
  refine callsIn_of_wp Tryd.func23 rfl hF ?_ hro
  simp only [Tryd.ntmps23, List.size_toArray, List.length_cons, List.length_nil, Nat.reduceAdd, Nat.reduceSub, Array.replicate_succ, Array.replicate_zero, List.push_toArray, List.append_toArray, List.nil_append, List.cons_append]
  gi_wp2
  go_ret
  exact ⟨by simp, rfl⟩

set_option maxRecDepth 100000 in
set_option maxHeartbeats 2000000 in
theorem Choices1_seq (F : Fence) (n_ : Nat) (hF : F.fn 30) (hro : F.round = none) (hn_ : 1 ≤ n_) (Bn Bm n many : Nat) (hn : n ≤ 3) (w : World) (hBn : w.cell? ⟨Bn, 0, none⟩ = some (.int .i64 n)) (hBm : w.cell? ⟨Bm, 0, none⟩ = some (.int .i64 many)) :
    SeqMem F n_ Tryd.prog 30 #[.pointer (some ⟨Bn, 0, none⟩), .pointer (some ⟨Bm, 0, none⟩)] encS (MemS w.heap.size n many) (KpC Bn Bm) (fun xs => xs.map (·.2) = chL n many) w := by
  intro l J W hW hJ hY h0
  have hzn := World.block_lt_of_cell? _ _ hBn
  have hzm := World.block_lt_of_cell? _ _ hBm
  dsimp only at hzn hzm
  have hsz := hW.size
  replace hBn : W.cell? ⟨Bn, 0, none⟩ = some (.int .i64 n) := (hW.cell (p := ⟨Bn, 0, none⟩) hzn).trans hBn
  replace hBm : W.cell? ⟨Bm, 0, none⟩ = some (.int .i64 many) := (hW.cell (p := ⟨Bm, 0, none⟩) hzm).trans hBm
  have HJ := Lib.hid hJ
  have HY := Lib.hid hY
  have hsh : IntKind.i64.wrap ((2 : Int) ^ n) = ((2 ^ n : Nat) : Int) := by
    have : n = 0 ∨ n = 1 ∨ n = 2 ∨ n = 3 := by omega
    rcases this with rfl | rfl | rfl | rfl <;> decide
  have hT : 2 ^ n ≤ 8 := Nat.pow_le_pow_right (n := 2) (by omega) hn
  obtain ⟨ii, hi, hz0, hz1, hz2⟩ := info_parts info_int
  have hchl : chL n many = chTo n many (2 ^ n) := rfl
  obtain ⟨T, hTT⟩ : ∃ T, T = 2 ^ n := ⟨_, rfl⟩
  rw [← hTT] at hsh hT hchl
  rw [hchl]
  clear hJ hY hTT hchl hW
  obtain ⟨B0, hB0⟩ : ∃ B0, B0 = W.heap.size := ⟨_, rfl⟩
  rw [← hB0] at HJ hsz
  have hle0 : B0 ≤ W.heap.size := by omega
  clear hB0
  have hn63 : (n : Int) ≤ 64 := by omega
  have hn0 : (0 : Int) ≤ n := by omega
  refine callsIn_of_wp Tryd.func30 rfl hF ?_ hro
  simp only [Tryd.ntmps30, List.size_toArray, List.length_cons, List.length_nil, Nat.reduceAdd, Nat.reduceSub, Array.replicate_succ, Array.replicate_zero, List.push_toArray, List.append_toArray, List.nil_append, List.cons_append]
  gi_wp2
  gi_loopw [9] (fun i wr => ∃ (t : Nat) (pre : List Sl), t ≤ T ∧ i = .int .i64 t ∧ Hid (pre.map (·.2) = chTo n many t) ∧ Hid (J pre wr) ∧ wr.cell? ⟨Bn, 0, none⟩ = some (.int .i64 n) ∧ wr.cell? ⟨Bm, 0, none⟩ = some (.int .i64 many) ∧ B0 ≤ wr.heap.size) (fun i _ => T - (intOf i).toNat)
  case atStart => exact ⟨0, [], Nat.zero_le _, rfl, Lib.hid rfl, Lib.hid h0, hBn, hBm, hle0⟩
  case round =>
    obtain ⟨t, pre, ht, rfl, HP, HJ0, hbn, hbm, hle⟩ := hrel
    clear h0 hBn hBm hle0
    by_cases hlt : t < T
    · gi_wp2
      obtain ⟨wo, rfl⟩ : ∃ wo : World, wo = wr := ⟨_, rfl⟩
      gi_loopw [5, 13] (fun v i wr => ∃ (k : Nat), k ≤ n ∧ i = .int .i64 k ∧ Hid (OwnInts wr B0 v (natI (bitsTo t k))) ∧ Hid (J pre wr) ∧ wr.cell? ⟨Bn, 0, none⟩ = some (.int .i64 n) ∧ wr.cell? ⟨Bm, 0, none⟩ = some (.int .i64 many) ∧ B0 ≤ wr.heap.size) (fun _ i _ => n - (intOf i).toNat)
      case atStart => exact ⟨0, Nat.zero_le _, rfl, Lib.hid (OwnInts.nil _ _), HJ0, hbn, hbm, hle⟩
      case round =>
        obtain ⟨k, hk, rfl, HO, HJ1, hbn1, hbm1, hle1⟩ := hrel
        clear hbn hbm hle HJ0
        by_cases hltk : k < n
        · have hk0 : (0 : Int) ≤ k := by omega
          have hk64 : (k : Int) ≤ 64 := by omega
          have hEq : ((t : Int) / 2 ^ k) = ((t / 2 ^ k : Nat) : Int) := by
            rw [Int.natCast_ediv]; simp
          have hE8 : t / 2 ^ k < 8 := Nat.lt_of_le_of_lt (Nat.div_le_self _ _) (by omega)
          have hbit := bits_small hE8
          rw [← hEq] at hbit
          clear hEq hE8
          obtain ⟨b, hb⟩ : ∃ b, b = t / 2 ^ k % 2 := ⟨_, rfl⟩
          rw [← hb] at hbit
          have HBB := Lib.hid hb
          clear hb
          by_cases hb1 : b = 1
          · subst hb1
            have hbt : bitsTo t (k + 1) = bitsTo t k ++ [k] := by rw [bitsTo, if_pos HBB.out.symm]
            have HBT := Lib.hid hbt
            have hlb := bits_len t k
            have HLB := Lib.hid hlb
            clear hbt hlb
            gi_wp2_with (gi_at_builtin; refine wpListIn_append_own (o := ⟨some 24, _, _, _, _, _⟩) _ rfl _ _ 24 rfl B0 3 ii (.int .i64 0) 1 8 Tryd.underlying24 hi hz0 hz1 hz2 rfl (by decide) _ (natI (bitsTo t k)).length ((natI (bitsTo t k)).map (Value.int .i64)) rfl (World.ownsRow.alloc HO.out _) ⟨wr.heap.size, 0, none⟩ 1 1 [.int .i64 k] rfl rfl (fun j u hj => by obtain ⟨ad', e1, e2⟩ := one_new wr _ 3 j u hj; cases e1; exact e2) (one_int _ _) (by have := HLB.out; rw [natI_len]; unfold maxLen; omega) (by have := HLB.out; rw [natI_len]; omega) (le_alloc hle1 _) ?_; intro v2 w2 hown2 hgrow2 _)
            have hs2 := OwnInts.snoc rfl hown2
            rw [← natI_snoc, ← HBT.out] at hs2
            have hrow : ∀ r, Value.ownBlock _ = some r → B0 ≤ r := fun r hr => (World.ownsRow.lt HO.out r hr).1
            have hJ2 := HJ.out _ _ _ _ (HJ.out.alloc (.cells #[.int .i64 (k : Int)] 3) HJ1.out) hgrow2 hrow
            have hn2 := hgrow2.cell (cell_alloc_l (.cells #[.int .i64 (k : Int)] 3) hbn1) (fun e => by have := hrow Bn e.symm; omega)
            have hm2 := hgrow2.cell (cell_alloc_l (.cells #[.int .i64 (k : Int)] 3) hbm1) (fun e => by have := hrow Bm e.symm; omega)
            have hle2 := Nat.le_trans (le_alloc hle1 (.cells #[.int .i64 (k : Int)] 3)) hgrow2.size
            go_roundw
            case rel => exact ⟨k + 1, by omega, by simp, Lib.hid hs2, Lib.hid hJ2, hn2, hm2, hle2⟩
            case measure => simp [intOf]; omega
          · have hbt : bitsTo t (k + 1) = bitsTo t k := by rw [bitsTo, if_neg (fun h => hb1 (HBB.out.trans h))]
            have HBT := Lib.hid hbt
            have hb1' : ((b : Int) == 1) = false := by simp; omega
            clear hbt
            gi_wp2
            go_roundw
            case rel => exact ⟨k + 1, by omega, by simp, by rw [HBT.out]; exact HO, HJ1, hbn1, hbm1, hle1⟩
            case measure => simp [intOf]; omega
        · obtain rfl : k = n := by omega
          have hO := HO.out
          obtain ⟨va, vcap, rfl, h1, h2, h3, h4⟩ := hO.shape
          have hrow : ∀ b o t, va = some ⟨b, o, t⟩ → w.heap.size ≤ b := fun b o t' e => by
            have := (World.ownsRow.lt HO.out b (by rw [e]; rfl)).1
            omega
          rw [natI_len] at h4
          have HMS := Lib.hid (show _ ∧ _ from ⟨h4, hrow⟩)
          have hlen : (natI (bitsTo t k)).length = (bitsTo t k).length := natI_len _
          clear hO h1 h2 h3 h4 hrow
          by_cases hmany : (bitsTo t k).length = many
          · obtain ⟨fn, tmps, assign, body, hy, hR⟩ := HY.out pre ((va, vcap), bitsTo t k) wr HJ1.out ⟨HMS.out.1, HMS.out.2, hmany, bits_lt t k⟩
            have hmb : (((bitsTo t k).length : Int) == (many : Int)) = true := by simp; omega
            have HMM := Lib.hid hmany
            dsimp only [encS] at hy
            clear hmany
            rw [hlen]
            gi_wp2
            refine hR.mono ?_
            rintro e W3 ⟨rfl, hJ3, hk3⟩
            have hsz3 := hk3.2.2
            have hn3 := hk3.1 _ hbn1
            have hm3 := hk3.2.1 _ hbm1
            have HJ3 := Lib.hid hJ3
            clear hJ3 hk3
            gi_wp2
            go_roundw
            case rel => exact ⟨t + 1, pre ++ [((va, vcap), bitsTo t k)], by omega, by simp, Lib.hid (by rw [List.map_append, HP.out, chTo, if_pos HMM.out]; rfl), HJ3, hn3, hm3, Nat.le_trans hle1 hsz3⟩
            case measure => simp [intOf]; omega
          · have hmb : (((bitsTo t k).length : Int) == (many : Int)) = false := by simp; omega
            have HMM := Lib.hid hmany
            clear hmany
            rw [hlen]
            gi_wp2
            refine ⟨fun f h => (by cases h), ?_⟩
            gi_wp2
            go_roundw
            case rel => exact ⟨t + 1, pre, by omega, by simp, Lib.hid (by rw [HP.out, chTo, if_neg HMM.out]), HJ1, hbn1, hbm1, hle1⟩
            case measure => simp [intOf]; omega
    · obtain rfl : t = T := by omega
      gi_wp2
      go_end0
      exact ⟨⟨_, rfl⟩, pre, HP.out, HJ0.out⟩
end Go.Proofs.YtllomialkiaccaaDoor
