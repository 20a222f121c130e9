/- A record is put into a book's log. -/
import Derived.Test.YtokneabcgmjhdaaGreatDoorBase
import Derived.Test.YtokneabcgmjhdaaGreatDoorShelf
import Derived.Deep.LoopGhost
import Derived.Deep.RegionLaw
import Derived.Lib.ItoaLen
namespace Go.Proofs.YtokneabcgmjhdaaGreatDoor
open Go.RowKit
set_option linter.unusedVariables false
set_option linter.unusedSimpArgs false

/-- a number's digits -/
def dig (n : Int) : ByteArray := ⟨(Lib.itoa n).toArray⟩
/-- one blank -/
def blank : ByteArray := ⟨#[32]⟩
/-- a record, so many numbers told -/
def recTo (word : ByteArray) (l : List Int) : Nat → ByteArray
  | 0 => word
  | k + 1 => recTo word l k ++ (blank ++ dig (l.getD k 0))
/-- the whole record, its sum, the line -/
def recOf (word : ByteArray) (l : List Int) : ByteArray := recTo word l l.length
def sumOf (r : ByteArray) : Int := csum r.data.toList r.size % 9973
def lineOf (word : ByteArray) (l : List Int) : ByteArray := recOf word l ++ blank ++ dig (sumOf (recOf word l))

theorem Itoa_any (n : Int) (B : Nat) (w : World) (h0 : 0 ≤ n) (h1 : n ≤ 9972) (hT : Tab B w) :
    Calls Tryz.prog 64 #[.int .i64 n] w fun e w' => e = .returned (.string (dig n)) ∧ Below w.heap.size w w' := by
  refine (Tryz.strconv_Itoa n (by omega) (by omega) w hT.here).mono ?_
  rintro e w' ⟨rfl, k, os, rfl⟩
  exact ⟨rfl, Lib.below_grow w.heap.size w (Nat.le_refl _) k os⟩
theorem dig_size (n : Int) (h0 : 0 ≤ n) (h1 : n ≤ 9972) : (dig n).size ≤ 21 := by
  have := Lib.itoa_length_le n (by omega) (by omega)
  show (Lib.itoa n).toArray.size ≤ 21
  simpa using this
theorem recTo_size (word : ByteArray) (l : List Int) (hr : ∀ k, 0 ≤ l.getD k 0 ∧ l.getD k 0 ≤ 9972) : ∀ k, (recTo word l k).size ≤ word.size + 22 * k
  | 0 => by simp [recTo]
  | k + 1 => by
    have h1 := recTo_size word l hr k
    have h2 := dig_size (l.getD k 0) (hr k).1 (hr k).2
    have h3 : blank.size = 1 := rfl
    rw [recTo, ByteArray.size_append, ByteArray.size_append]
    omega
theorem sumOf_in {r : ByteArray} (h : r.size ≤ 1000000) : 0 ≤ sumOf r ∧ sumOf r ≤ 9972 := by
  unfold sumOf
  omega

/-- append, as one step of a region that draws its order -/
theorem step_append_own2 {P : Program} {ops : Array Oper} {o : Oper} {a : Act} {w : World} {K : Act → World → Prop} {Q : Exit → Act → World → Prop} {E : Prop}
    (hgd : o.guard = none) (s x : Operand) (t : TypeId) (hop : o.op = .call { callee := .builtin .append, args := #[s, x], argTypes := #[t, t] })
    (base : Nat) (e : TypeId) (i : TypeInfo) (z : Value) (bytes : Nat) (ht : P.underlying t = some (.slice e)) (hi : P.info? e = some i) (hz : i.zero = some z)
    (hsize : i.size = 1) (hby : i.bytes = bytes) (hzs : z.cells.size = 1)
    (v : Value) (n : Nat) (xs : List Value) (hs : a.eval s = v) (hown : w.ownsRow base e 1 v n xs)
    (ad : Addr) (m c : Nat) (news : List Value) (hx : a.eval x = .slice (some ad) m c) (hl : news.length = m) (hnews : ∀ j u, news[j]? = some u → w.cell? (ad.add j) = some u) (h1 : ∀ u ∈ news, u.oneCell' = true)
    (h63 : n + m ≤ maxLen) (hbytes : (n + m) * bytes ≤ 140737488355328) (hbase : base ≤ w.heap.size)
    (hK : ∀ v' w', w'.ownsRow base e 1 v' (n + m) (xs ++ news) → w.grownBy w' v.ownBlock → (∀ k, v'.ownBlock = some k → v.ownBlock = some k ∨ w.heap.size ≤ k) → K (a.put o.dst v') w') :
    if Region.wanted o (yielded ops a.tmps) = true then Oper.wp P o a w K Q else E := by
  have hw : Region.wanted o (yielded ops a.tmps) = true := by simp [Region.wanted, hgd]
  rw [if_pos hw]
  have up : ∀ {w' : World} {v' : Value} {k : Nat} {ys : List Value}, w'.ownsRow w.heap.size e 1 v' k ys → w'.ownsRow base e 1 v' k ys := by
    intro w' v' k ys hh
    refine ⟨hh.1, ?_⟩
    rcases hh.2 with h | ⟨g, cap, cur, h1, h2, h3⟩
    · exact Or.inl h
    · exact Or.inr ⟨g, cap, cur, h1, by omega, h3⟩
  have hrun : ∃ v' w', (Builtin.append_ #[t, t] o.type #[v, .slice (some ad) m c]).run P w = .ok v' w' ∧ w'.ownsRow base e 1 v' (n + m) (xs ++ news) ∧ w.grownBy w' v.ownBlock ∧ (∀ k, v'.ownBlock = some k → v.ownBlock = some k ∨ w.heap.size ≤ k) := by
    rcases hown.2 with ⟨rfl, rfl⟩ | ⟨g, cap, cur, rfl, hg, hb, hc1, hc2, hc3, hc4⟩
    · have hx0 : xs = [] := List.eq_nil_of_length_eq_zero (by simpa using hown.1)
      subst hx0
      obtain ⟨v', w', hrun, r1, r2, _⟩ := run_append_own (P := P) w w.heap.size t o.type e i z 1 bytes ht hi hz hsize hby hzs (by decide) (.slice none 0 0) 0 [] (World.ownsRow_nil w _ e 1) ad m c news (by omega) hnews h1 h63 hbytes (Nat.le_refl _)
      exact ⟨v', w', hrun, up r1, r2, fun k hk => Or.inr (r1.lt k hk).1⟩
    · by_cases hf : n + m ≤ cap
      · obtain ⟨w', hrun, r1, r2⟩ := run_append_fits (P := P) w base t o.type e i 1 ht hi hsize g n cap xs hown ad m c news (by omega) hnews h1 hf
        exact ⟨_, w', hrun, r1, r2, fun k hk => Or.inl hk⟩
      · obtain ⟨v', w', hrun, r1, r2⟩ := run_append_arg_grows (P := P) w t o.type e i z 1 bytes ht hi hz hsize hby hzs (by decide) ⟨g, 0, none⟩ n cap xs hown.1 (fun j u hj => hown.cells rfl j u hj) ad m c news (by omega) hnews (by omega) h63 hbytes
        exact ⟨v', w', hrun, up r1, ⟨r2.os, r2.tape, r2.output, r2.size, fun k hk _ => r2.block k hk (by simp)⟩, fun k hk => Or.inr (r1.lt k hk).1⟩
  obtain ⟨v', w', hrun, r1, r2, r3⟩ := hrun
  unfold Oper.wp
  simp [execOp, hop, resolve, invoke, builtin, hs, hx, hrun, Result.andThen]
  exact hK _ _ r1 r2 r3

set_option maxRecDepth 100000 in
set_option maxHeartbeats 2000000 in
theorem Note_any (w : World) (B Bk G : Nat) (vs : List Value) (vl : Value) (rows : List (List Int)) (lines : List ByteArray) (hB : BookAt w B Bk G vs vl rows lines) (hBw : B ≤ w.heap.size) (hT : Tab B w) (hn : lines.length ≤ 1000) (word : ByteArray) (hw : word.size = 1) (l : List Int) (hl : l.length = 3) (hr : ∀ k, 0 ≤ l.getD k 0 ∧ l.getD k 0 ≤ 9972)
    (al : Option Addr) (cap : Nat) (ha : IntsAt w al 3 l) :
    Calls Tryz.prog 91 #[.pointer (some ⟨Bk, 0, none⟩), .string word, .slice al 3 cap] w fun e w' => e = .returned (.tuple #[]) ∧ (∃ vl', BookAt w' B Bk G vs vl' rows (lines ++ [lineOf word l]) ∧ ∀ b, vl'.ownBlock = some b → vl.ownBlock = some b ∨ w.heap.size ≤ b) ∧ BKept w w' Bk vs vl := by
  obtain ⟨ii, hi, hz0, hz1, hz2⟩ := info_parts info_str
  have HB := Lib.hid hB
  have HT := Lib.hid hT
  have HA := Lib.hid ha
  have HRG := Lib.hid hr
  have hsz := recTo_size word l hr 3
  have HRS := Lib.hid (recTo_size word l hr)
  rw [hw] at hsz HRS
  have hsz' : (recTo word l 3).size ≤ 1000000 := by omega
  have hsum := sumOf_in hsz'
  have HSUM := Lib.hid hsum
  have HLINE : lineOf word l = recTo word l 3 ++ blank ++ dig (sumOf (recTo word l 3)) := by unfold lineOf recOf; rw [hl]
  have hCS := fun W => Checksum_any (recTo word l 3) W hsz'
  rw [show csum (recTo word l 3).data.toList (recTo word l 3).size % 9973 = sumOf (recTo word l 3) from rfl] at hCS
  generalize sumOf (recTo word l 3) = S at *
  have HL := Lib.hid HLINE
  have HCS := Lib.hid hCS
  clear hB hT ha hr hw hl HLINE hsz hsz' hsum hCS
  go_enter Tryz.func91, Tryz.ntmps91
  go_wp2_with fail
  go_loopg [6, 12] 4 (fun g r i wr => ∃ k : Nat, k ≤ 3 ∧ 3 - k < g ∧ r = .string (recTo word l k) ∧ i = .int .i64 k ∧ Below w.heap.size w wr)
  case atStart => exact ⟨0, by omega, by omega, rfl, rfl, Below.refl _ _⟩
  case round =>
    obtain ⟨k, hk, hg, rfl, rfl, hbel⟩ := hrel
    by_cases hlt : k < 3
    · obtain ⟨b1, o1, rfl, c1⟩ := (HA.out.call hbel).2 k hlt
      have hk0 : (0 : Int) ≤ k := by omega
      have hk1 : (k : Int) < 3 := by omega
      have hr1 := (HRG.out k).1
      have hr2 := (HRG.out k).2
      have z1 := World.block_lt_of_cell? _ _ c1
      obtain ⟨x, hx⟩ : ∃ x, x = l.getD k 0 := ⟨_, rfl⟩
      rw [← hx] at c1 hr1 hr2
      have HX := Lib.hid hx
      have hd := dig_size x hr1 hr2
      have hR := HRS.out k
      clear hx
      go_wp2_with fail
      go_at_call 64
      refine (Itoa_any _ B _ hr1 hr2 (HT.out.call (hbel.mono hBw))).mono ?_
      rintro e w2 ⟨rfl, hb2⟩
      have hB2 := below_trans hbel hb2
      go_wp2_with fail
      go_roundg (3 - k)
      case measure => omega
      case rel => exact ⟨k + 1, by omega, by omega, by rw [recTo, ← HX.out]; rfl, by go_num, hB2⟩
    · obtain rfl : k = 3 := by omega
      have HB1 := Lib.hid (HB.out.call hbel)
      have q1 := HB1.out.cell1
      have q2 := HB1.out.free 1
      obtain ⟨R, hR⟩ : ∃ R, R = recTo word l 3 := ⟨_, rfl⟩
      rw [← hR] at HL HCS ⊢
      have hrs : R.size ≤ 67 := by have := HRS.out 3; rw [← hR] at this; omega
      have hds := dig_size S HSUM.out.1 HSUM.out.2
      have hf1 : ¬ 9223372036854775807 < R.size + 1 := by omega
      have hf2 : ¬ 9223372036854775807 < R.size + 1 + (dig S).size := by omega
      have hf3 : ¬ 9223372036854775807 < (R ++ { data := #[32] } : ByteArray).size + (dig S).size := by rw [ByteArray.size_append]; exact hf2
      clear hR HA
      go_wp2_with fail
      go_region_law (first
        | (go_simp; go_at_call 112; refine (HCS.out _).mono ?_; rintro e w' ⟨rfl, rfl⟩)
        | (go_simp; go_at_call 64; refine (Itoa_any _ B _ HSUM.out.1 HSUM.out.2 (HT.out.call (below_drew' (hbel.mono hBw)))).mono ?_; rintro e w2 ⟨rfl, hb2'⟩; have hb2 := below_undrew hb2'; clear hb2'; have HB2 := Lib.hid (HB1.out.call hb2); have p1 := HB2.out.cell1; have p2 := HB2.out.free 1; have p3 : Bk < w2.heap.size := HB2.out.lt)
        | (go_loud (refine step_append_own2 rfl _ _ 38 rfl B 9 ii (.string ⟨#[]⟩) 16 Tryz.underlying38 hi hz0 hz1 hz2 rfl vl lines.length (lines.map Value.string) rfl (World.ownsRow.alloc HB2.out.log _) ⟨_, 0, none⟩ 1 1 [.string (R ++ blank ++ dig S)] rfl rfl (fun j u hj => by obtain ⟨ad', h1, h2⟩ := one_new _ _ _ j u hj; cases h1; exact h2) (by simp [Value.oneCell']) (by unfold maxLen; omega) (by omega) (le_alloc (Nat.le_trans hBw (Nat.le_trans hbel.size hb2.size)) _) ?_); intro v3 w3 ho hgr hbl; obtain ⟨a3, l3, c3, rfl⟩ := own_slice ho; have HG := Lib.hid (grown_alloc hgr); have HO := Lib.hid ho; have HBL := Lib.hid hbl; have r1 := (HB2.out.boxKept HG.out).1; have r2 := (HB2.out.boxKept HG.out).2; clear ho hgr hbl))
      all_goals
        go_wp2_with fail
        go_end0
        have hfin := HB2.out.logged HO.out HG.out
        have hk := (BKept.of Bk vs vl (below_trans hbel hb2)).trans (BKept.logged (Bk := Bk) (vs := vs) (vl' := .slice a3 l3 c3) HG.out) (fun b h => Or.inl h)
        refine ⟨rfl, ⟨_, by rw [HL.out]; exact hfin, fun b h => ?_⟩, hk⟩
        rcases HBL.out b h with h | h
        · exact Or.inl h
        · have h1 := hbel.size
          have h2 := hb2.size
          simp at h
          exact Or.inr (by omega)
end Go.Proofs.YtokneabcgmjhdaaGreatDoor
