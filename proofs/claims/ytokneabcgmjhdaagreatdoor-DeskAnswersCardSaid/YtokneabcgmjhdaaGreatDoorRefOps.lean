/- Contracts of the reference for books: down, Set, Add. -/
import Derived.Test.YtokneabcgmjhdaaGreatDoorRefBook
import Derived.Test.YtokneabcgmjhdaaGreatDoorLawIn
import Derived.Deep.DeepCutAuto
namespace Go.Proofs.YtokneabcgmjhdaaGreatDoor
open Go.RowKit
set_option linter.unusedVariables false
set_option linter.unusedSimpArgs false

theorem results_cell_row_tmp {P : Program} {fn : Func} {p u : Tmp} {ty : TypeId} (h : fn.results = #[.cell p ty, .tmp u]) (tmps : Array Value) (w : World) (g : Nat) (t : TypeId) (cs : Array Value) (fr : Nat × Nat) (d : TypeDesc)
    (hp : tmps.getD p undef = .pointer (some ⟨g, 0, none⟩)) (hg : w.heap[g]? = some (.cells cs t fr))
    (hu : P.underlying ty = some d) (hd : (match d with | .struct _ | .array _ _ => true | _ => false) = true) (hi : (P.info? ty).map (·.size) = some cs.size) :
    (results fn tmps).run P w = .ok (.tuple #[.agg cs, tmps.getD u undef]) w := by
  rw [results_cell_tmp h, hp]
  simp [asAddr, run_loadVar_row w g t ty cs fr d hg hu hd hi, Result.andThen]
/-- what a book's text gains -/
def gain (text word : ByteArray) (l : List Int) : ByteArray := text ++ (lineOf word l ++ ⟨#[10]⟩)
theorem gain_eq (text word : ByteArray) (p q m : Int) (S : Int) (hS : S = sumOf (recOf word [p, q, m])) :
    (text ++ (((((word ++ ⟨#[32]⟩ ++ dig p) ++ ⟨#[32]⟩) ++ dig q) ++ ⟨#[32]⟩) ++ dig m) ++ ⟨#[32]⟩ ++ dig S) ++ ⟨#[10]⟩ = gain text word [p, q, m] := by
  subst hS
  unfold gain lineOf
  show _ = text ++ ((((word ++ (blank ++ dig p)) ++ (blank ++ dig q)) ++ (blank ++ dig m)) ++ blank ++ dig _ ++ _)
  simp only [ByteArray.append_assoc]
  rfl
theorem rec_eq (word : ByteArray) (p q m : Int) : ((((word ++ ⟨#[32]⟩ ++ dig p) ++ ⟨#[32]⟩) ++ dig q) ++ ⟨#[32]⟩) ++ dig m = recOf word [p, q, m] := by
  show _ = ((word ++ (blank ++ dig p)) ++ (blank ++ dig q)) ++ (blank ++ dig m)
  simp only [ByteArray.append_assoc]
  rfl
theorem sz_add (a b : ByteArray) : (a ++ b).size = a.size + b.size := ByteArray.size_append

set_option maxRecDepth 100000 in
set_option maxHeartbeats 1000000 in
theorem Down_any (a : Option Addr) (cap : Nat) (text word : ByteArray) (many p q m : Nat) (w : World) (ht : text.size ≤ 100000) (hw : word.size = 1) (hp : p ≤ 3) (hq : q ≤ 3) (hm : m ≤ 9972) (hmany : many ≤ 1000) :
    Calls Tryz.prog 53 #[refV a cap text many, .string word, .int .i64 p, .int .i64 q, .int .i64 m] w fun e w' => e = .returned (refV a cap (gain text word [(p : Int), q, m]) ((many : Int) + 1)) ∧ Below w.heap.size w w' := by
  have D1 := Lib.hid (fun W => Digits_any p W (by omega))
  have D2 := Lib.hid (fun W => Digits_any q W (by omega))
  have D3 := Lib.hid (fun W => Digits_any m W (by omega))
  have z1 := dig_len p (by omega)
  have z2 := dig_len q (by omega)
  have z3 := dig_len m (by omega)
  have HR := rec_eq word p q m
  have hrs : (recOf word [(p : Int), q, m]).size ≤ 100 := by
    rw [← HR]
    simp only [sz_add]
    show word.size + 1 + _ + 1 + _ + 1 + _ ≤ _
    omega
  have hsum := sumOf_in (r := recOf word [(p : Int), q, m]) (by omega)
  obtain ⟨s, hs⟩ : ∃ s : Nat, (s : Int) = sumOf (recOf word [(p : Int), q, m]) := ⟨(sumOf (recOf word [(p : Int), q, m])).toNat, by omega⟩
  have HG := Lib.hid (gain_eq text word p q m s hs)
  have HS := fun W => RSum_any (recOf word [(p : Int), q, m]) W (by omega)
  rw [← hs] at HS hsum
  have D4 := Lib.hid (fun W => Digits_any s W (by omega))
  have z4 := dig_len s (by omega)
  have HSS := Lib.hid HS
  have HRR := Lib.hid HR
  obtain ⟨R, hR⟩ : ∃ R, R = recOf word [(p : Int), q, m] := ⟨_, rfl⟩
  rw [← hR] at HSS hrs HRR
  obtain ⟨x1, hx1⟩ : ∃ x, x = dig (p : Int) := ⟨_, rfl⟩
  obtain ⟨x2, hx2⟩ : ∃ x, x = dig (q : Int) := ⟨_, rfl⟩
  obtain ⟨x3, hx3⟩ : ∃ x, x = dig (m : Int) := ⟨_, rfl⟩
  obtain ⟨x4, hx4⟩ : ∃ x, x = dig (s : Int) := ⟨_, rfl⟩
  rw [← hx1] at D1 z1 HRR HG
  rw [← hx2] at D2 z2 HRR HG
  rw [← hx3] at D3 z3 HRR HG
  rw [← hx4] at D4 z4 HG
  rw [HRR.out] at HG
  obtain ⟨GN, hGN⟩ : ∃ x, x = gain text word [(p : Int), q, m] := ⟨_, rfl⟩
  rw [← hGN] at HG ⊢
  clear HR HS hs hx1 hx2 hx3 hx4 hR hGN
  go_enter Tryz.func53, Tryz.ntmps53
  go_wp2_with fail
  go_at_call 11
  refine (D1.out _).mono ?_
  rintro e w1 ⟨rfl, hb1⟩
  go_wp2_with fail
  go_at_call 11
  refine (D2.out _).mono ?_
  rintro e w2 ⟨rfl, hb2⟩
  go_wp2_with fail
  go_at_call 11
  refine (D3.out _).mono ?_
  rintro e w3 ⟨rfl, hb3⟩
  have n1 : w.heap.size < w.heap.size + 1 + 1 := by omega
  have hbx1 : w1.heap[w.heap.size]? = some (.cells #[.slice a 4 cap, .string text, .int .i64 many] 48 (0, 0)) := by
    rw [hb1.block _ (by simp; omega), heap_alloc_old _ _ (by simp)]; exact heap_alloc_new _ _
  have hby1 : w1.heap[w.heap.size + 1]? = some (boxO (.slice none 0 0)) := by
    rw [hb1.block _ (by simp)]; exact heap_alloc2_new _ _ _
  have hbel1 : Below w.heap.size w w1 := (((Below.refl _ _).alloc (Nat.le_refl _) _).alloc (by simp) _).trans (hb1.mono (by simp; omega))
  have hbel := below_trans (below_trans hbel1 hb2) hb3
  have l1 := (Array.getElem?_eq_some_iff.1 hbx1).1
  have l2 := (Array.getElem?_eq_some_iff.1 hby1).1
  have hs2 := hb2.size
  have hs3 := hb3.size
  have hbx : w3.heap[w.heap.size]? = some (.cells #[.slice a 4 cap, .string text, .int .i64 many] 48 (0, 0)) := by
    rw [hb3.block _ (by omega), hb2.block _ (by omega)]; exact hbx1
  have hby : w3.heap[w.heap.size + 1]? = some (boxO (.slice none 0 0)) := by
    rw [hb3.block _ (by omega), hb2.block _ (by omega)]; exact hby1
  have l3 : w.heap.size < w3.heap.size := by omega
  have l4 : w.heap.size + 1 < w3.heap.size := by omega
  clear hb1 hb2 hb3 hbel1 hbx1 hby1 l1 l2 hs2 hs3
  have q0 : w3.cell? ⟨w.heap.size, 0, none⟩ = some (.slice a 4 cap) := by simp [World.cell?, hbx]
  have q1 : w3.cell? ⟨w.heap.size, 1, none⟩ = some (.string text) := by simp [World.cell?, hbx]
  have q2 : w3.cell? ⟨w.heap.size, 2, none⟩ = some (.int .i64 many) := by simp [World.cell?, hbx]
  have f1 : w3.frozen? ⟨w.heap.size, 1, none⟩ = false := by simp [World.frozen?, hbx]
  have f2 : w3.frozen? ⟨w.heap.size, 2, none⟩ = false := by simp [World.frozen?, hbx]
  have p0 : w3.cell? ⟨w.heap.size + 1, 0, none⟩ = some (.slice none 0 0) := by simp [World.cell?, hby]
  have p1 : w3.cell? ⟨w.heap.size + 1, 1, none⟩ = some (.string ⟨#[]⟩) := by simp [World.cell?, hby]
  have p2 : w3.cell? ⟨w.heap.size + 1, 2, none⟩ = some (.int .i64 0) := by simp [World.cell?, hby]
  have g0 : w3.frozen? ⟨w.heap.size + 1, 0, none⟩ = false := by simp [World.frozen?, hby]
  have g1 : w3.frozen? ⟨w.heap.size + 1, 1, none⟩ = false := by simp [World.frozen?, hby]
  have g2 : w3.frozen? ⟨w.heap.size + 1, 2, none⟩ = false := by simp [World.frozen?, hby]
  have HBX := Lib.hid hbx
  have HBY := Lib.hid hby
  clear hbx hby
  have s1 : ¬ 9223372036854775807 < text.size + R.size := by omega
  have s2 : ¬ 9223372036854775807 < text.size + R.size + 1 := by omega
  have s3 : ¬ 9223372036854775807 < text.size + R.size + 1 + x4.size := by omega
  have s4 : ¬ 9223372036854775807 < text.size + R.size + 1 + x4.size + 1 := by omega
  have e1 : (⟨#[32]⟩ : ByteArray).size = 1 := rfl
  have e2 : (⟨#[10]⟩ : ByteArray).size = 1 := rfl
  go_wp2_with fail
  rw [HRR.out]
  have HZ := Lib.hid sz_add
  refine wp_region_quiet_tail (C := Cls w3.heap.size w3) 11 (by kernel_rfl) (by kernel_rfl) Cls.start ?_
  simp only [List.take_succ_cons, List.take_zero, List.drop_succ_cons, List.drop_zero]
  repeat
    (refine wpQuiet_step (fun K hK => ?_)
     go_simp
     first
       | (refine hK _ ?_; clear hK K)
       | (apply Exists.intro
          refine ⟨fun w' hC => ?_, hK _ ?_⟩
          · (obtain ⟨hr, hr2⟩ := hC.rules
             first
               | (go_at_call 82; exact Cls.callSame hC (HSS.out _))
               | (go_at_call 11; exact Cls.call hC (Nat.le_refl _) (D4.out _))
               | (go_simp; done)
               | (go_simp; rfl))
          clear hK K))
  refine wpQuiet_nil ?_
  intro W5 hW5
  obtain ⟨hc, hf⟩ := hW5.rules
  have hW5s := hW5.size
  go_wp2_with fail
  (try simp only [Exit.inBlock, Exit.then])
  have HY5 : W5.heap[w.heap.size + 1]? = some (boxO (.slice none 0 0)) := by rw [hW5.block _ l4]; exact HBY.out
  rw [HG.out]
  refine bodyPost_ret (results_cell_row rfl _ _ (w.heap.size + 1) 48 #[.slice a 4 cap, .string GN, .int .i64 ((many : Int) + 1)] (0, 0) _ rfl ?_ Tryz.underlying48 rfl (by kernel_rfl)) rfl ⟨rfl, ?_⟩
  · refine box_store3 (x := .slice none 0 0) (y := .string ⟨#[]⟩) (z := .int .i64 0) ?_
    rw [heap_setCell_other _ _ _ _ (by simp), heap_setCell_other _ _ _ _ (by simp)]
    exact HY5
  · have h5 := hbel.trans (hW5.mono (by omega))
    exact box_below3 ((h5.setCell (p := ⟨w.heap.size, 1, none⟩) (Nat.le_refl _) _).setCell (p := ⟨w.heap.size, 2, none⟩) (Nat.le_refl _) _) (by omega)

theorem out_in (lo hi n : Int) : outB lo hi n = !inB n lo hi := by
  unfold outB inB
  by_cases h1 : lo ≤ n <;> by_cases h2 : n ≤ hi <;> simp [h1, h2] <;> omega
theorem place_in (i j n : Int) : placeErr i j n = if (inB i 0 3 && inB j 0 3) && inB n 0 9972 then 0 else 1 := by
  unfold placeErr
  rw [out_in, out_in, out_in]
  cases inB i 0 3 <;> cases inB j 0 3 <;> cases inB n 0 9972 <;> rfl

set_option maxRecDepth 100000 in
set_option maxHeartbeats 1000000 in
theorem RSet_bad (a : Option Addr) (cap : Nat) (text : ByteArray) (many : Nat) (i j n : Int) (w : World) (he : setErr i j n many ≠ 0) :
    Calls Tryz.prog 32 #[refV a cap text many, .int .i64 i, .int .i64 j, .int .i64 n] w fun e w' => e = .returned (.tuple #[refV a cap text many, .int .i64 (setErr i j n many)]) ∧ Below w.heap.size w w' := by
  have hv : setErr i j n many = if placeErr i j n ≠ 0 then placeErr i j n else if 60 ≤ many then 4 else 0 := rfl
  rw [place_in] at hv
  generalize setErr i j n many = v at *
  cases e1 : inB i 0 3 <;> cases e2 : inB j 0 3 <;> cases e3 : inB n 0 9972
  all_goals
    rw [e1, e2, e3] at hv
    have hm : (v = 1 ∧ True) ∨ (v = 4 ∧ 60 ≤ (many : Int)) := by
      by_cases hm : 60 ≤ many
      · simp [hm] at hv; first | (exact Or.inl ⟨hv, trivial⟩) | (exact Or.inr ⟨hv, by omega⟩)
      · simp [hm] at hv; first | (exact Or.inl ⟨hv, trivial⟩) | (exact absurd hv he)
    clear he
  any_goals
    obtain rfl : v = 1 := by simpa using hv
    clear hv hm
    go_enter Tryz.func32, Tryz.ntmps32
    go_wp2_with (go_at_call 51; refine (rin_any _ _ _ _).mono ?_; rintro e w1 ⟨rfl, rfl⟩)
    (try simp only [Exit.inBlock, Exit.then])
    refine bodyPost_ret (results_cell_row_tmp rfl _ _ (w.heap.size + 1) 48 #[.slice a 4 cap, .string text, .int .i64 many] (0, 0) _ rfl (heap_alloc2_new _ _ _) Tryz.underlying48 rfl (by kernel_rfl)) rfl ⟨rfl, ?_⟩
    exact ((Below.refl _ _).alloc (Nat.le_refl _) _).alloc (by simp) _
  obtain ⟨rfl, hmi⟩ : v = 4 ∧ 60 ≤ (many : Int) := by
    rcases hm with ⟨rfl, _⟩ | h
    · by_cases hm : 60 ≤ many <;> simp [hm] at hv
    · exact h
  clear hv hm
  go_enter Tryz.func32, Tryz.ntmps32
  go_wp2_with (go_at_call 51; refine (rin_any _ _ _ _).mono ?_; rintro e w1 ⟨rfl, rfl⟩)
  (try simp only [Exit.inBlock, Exit.then])
  refine bodyPost_ret (results_cell_row_tmp rfl _ _ (w.heap.size + 1) 48 #[.slice a 4 cap, .string text, .int .i64 many] (0, 0) _ rfl (heap_alloc2_new _ _ _) Tryz.underlying48 rfl (by kernel_rfl)) rfl ⟨rfl, ?_⟩
  exact ((Below.refl _ _).alloc (Nat.le_refl _) _).alloc (by simp) _

end Go.Proofs.YtokneabcgmjhdaaGreatDoor
