/- Contract of smith.divisor. -/
import Derived.Test.YtllomialkiaccaaDoorPart
import Derived.Test.YtllomialkiaccaaDoorGcd
import Derived.Test.YtllomialkiaccaaDoorHerCheck
import Derived.Shelf.RegionOpen
namespace Go.Proofs.YtllomialkiaccaaDoor
open Go.RowKit Go.Shelf
set_option linter.unusedVariables false
set_option linter.unusedSimpArgs false
attribute [local go_sem] Oper.semAt_some

theorem gcdI_bd {N : Nat} {a b : Int} (h : a.natAbs ≤ N) (k : b.natAbs ≤ N) : (gcdI a b).natAbs ≤ N := by
  unfold gcdI
  rw [Int.natAbs_natCast]
  by_cases h0 : b = 0
  · subst h0; simpa [Int.gcd] using h
  · have : Int.gcd a b ≤ b.natAbs := Nat.gcd_le_right _ (by omega)
    omega
theorem part_ent {M : Nat → Nat → Int} {B : Int} (hB : 0 ≤ B) (h : ∀ i j, -B ≤ M i j ∧ M i j ≤ B) (r c : List Nat) : Ent B (partL M r c) := by
  intro i j
  by_cases hi : i < r.length
  · by_cases hj : j < c.length
    · have := partL_fn M hi hj
      unfold fn at this
      rw [this]; exact h _ _
    · simp [partL, List.getD, hi, hj]; omega
  · simp [partL, List.getD, hi]; omega
theorem minor_bd {M : Nat → Nat → Int} (h : ∀ i j, -20 ≤ M i j ∧ M i j ≤ 20) {k : Nat} (hk : k ≤ 3) (r c : List Nat) : (detN k (partL M r c)).natAbs ≤ 48000 := by
  have h1 := detN_bd k (part_ent (by omega) h r c)
  have h2 := bnd20 hk
  omega
theorem cols_bd {M : Nat → Nat → Int} (h : ∀ i j, -20 ≤ M i j ∧ M i j ≤ 20) {k : Nat} (hk : k ≤ 3) (r : List Nat) (cs : List (List Nat)) : ∀ acc, acc.natAbs ≤ 48000 → (colsV M k r acc cs).natAbs ≤ 48000 := by
  induction cs with
  | nil => intro acc h0; exact h0
  | cons c cs ih => intro acc h0; exact ih _ (gcdI_bd h0 (minor_bd h hk r c))
theorem rowsV_bd {M : Nat → Nat → Int} (h : ∀ i j, -20 ≤ M i j ∧ M i j ≤ 20) {n k : Nat} (hk : k ≤ 3) (rs : List (List Nat)) : ∀ acc, acc.natAbs ≤ 48000 → (rowsV n k M acc rs).natAbs ≤ 48000 := by
  induction rs with
  | nil => intro acc h0; exact h0
  | cons c cs ih => intro acc h0; exact ih _ (cols_bd h hk _ _ _ h0)

theorem fresh_ints {β : Type} {B n : Nat} {a : Option Addr} {xs : List Int} (h : ∀ b o t, a = some ⟨b, o, t⟩ → b < B) : FreshFrom B (fun (_ : β) W => IntsAt W a n xs) := by
  intro _ X Y row hs hg hr
  refine ⟨hs.1, fun j hj => ?_⟩
  obtain ⟨b, off, ha, hc⟩ := hs.2 j hj
  exact ⟨b, off, ha, hg.cell hc (fun e => by have := hr b e.symm; have := h b off none ha; omega)⟩
theorem own_ints {W W' : World} {a : Option Addr} {n : Nat} {xs : List Int} {row : Option Nat} (hs : IntsAt W a n xs) (hg : W.grownBy W' row) (hr : ∀ r, row = some r → ∃ o : Obj, W.heap[r]? = some o ∧ o.isCells = false) : IntsAt W' a n xs := by
  refine ⟨hs.1, fun j hj => ?_⟩
  obtain ⟨b, off, ha, hc⟩ := hs.2 j hj
  exact ⟨b, off, ha, cell_kept hc hg hr⟩
theorem kpc_put {Bn Bm : Nat} (W : World) (l : Nat) (o o' : Obj) (h : W.heap[l]? = some o) (hc : o.isCells = false) : KpC Bn Bm W (W.putObj l o') :=
  ⟨fun v hv => cell_kept hv (grownBy_putObj' W l o') (fun r e => by cases e; exact ⟨o, h, hc⟩), fun v hv => cell_kept hv (grownBy_putObj' W l o') (fun r e => by cases e; exact ⟨o, h, hc⟩), by simp⟩
theorem kpc_alloc {Bn Bm : Nat} (W : World) (o : Obj) : KpC Bn Bm W (W.alloc o) := ⟨fun v hv => cell_alloc_l o hv, fun v hv => cell_alloc_l o hv, by simp⟩
theorem kpc_refl {Bn Bm : Nat} (W : World) : KpC Bn Bm W W := ⟨fun v hv => hv, fun v hv => hv, Nat.le_refl _⟩
/-- a block that is no cells is kept by what lets be what lay -/
theorem keeps_below {W W' : World} (h : Below W.heap.size W W') : KeepsOthers W W' := ⟨h.size, fun k o hk hko => (h.block k (Array.getElem?_eq_some_iff.1 hk).1).trans hk⟩

theorem fresh_cellF {β : Type} {B b : Nat} {v : β → Value} (hb : b < B) : FreshFrom B (fun (s : β) W => W.cell? ⟨b, 0, none⟩ = some (v s) ∧ W.frozen? ⟨b, 0, none⟩ = false) :=
  fun s X Y row hs hg hr => ⟨hg.cell hs.1 (fun e => by have := hr b e.symm; omega), by
    have hlt : b < X.heap.size := World.block_lt_of_cell? _ _ hs.1
    have := ((Below.refl (b + 1) X).grown hg (by omega) (fun k e => by have := hr k e; omega)).frozen (p := ⟨b, 0, none⟩) (by show b < b + 1; omega)
    rw [this]; exact hs.2⟩
/-- a call, then a store into one box -/
theorem call_store {W W5 : World} (h : Below W.heap.size W W5) {Bo : Nat} (v : Value) {b o : Nat} {u : Value} (hne : b ≠ Bo) (hu : W.cell? ⟨b, o, none⟩ = some u) : (W5.setCell ⟨Bo, 0, none⟩ v).cell? ⟨b, o, none⟩ = some u := by
  rw [← h.cell (p := ⟨b, o, none⟩) (World.block_lt_of_cell? _ _ hu)] at hu
  exact (grown_setCell W5 Bo 0 v).cell hu (by intro he; have he := Option.some.inj he; dsimp only at he; omega)
theorem kpc_store {W W5 : World} (h : Below W.heap.size W W5) {Bn Bm Bo : Nat} (v : Value) (h1 : Bn ≠ Bo) (h2 : Bm ≠ Bo) : KpC Bn Bm W (W5.setCell ⟨Bo, 0, none⟩ v) :=
  ⟨fun u hu => call_store h v h1 hu, fun u hu => call_store h v h2 hu, by simpa using h.size⟩

theorem ints_store {W W5 : World} (h : Below W.heap.size W W5) {Bo : Nat} (v : Value) {a : Option Addr} {n : Nat} {xs : List Int} (hne : ∀ b o t, a = some ⟨b, o, t⟩ → b ≠ Bo) (hu : IntsAt W a n xs) : IntsAt (W5.setCell ⟨Bo, 0, none⟩ v) a n xs := by
  refine ⟨hu.1, fun j hj => ?_⟩
  obtain ⟨b, off, ha, hc⟩ := hu.2 j hj
  exact ⟨b, off, ha, call_store h v (hne b off none ha) hc⟩
theorem fresh_kpc {β : Type} {B Bn Bm : Nat} {Wc : World} (h1 : Bn < B) (h2 : Bm < B) : FreshFrom B (fun (_ : β) W => KpC Bn Bm Wc W) :=
  fun s X Y row hs hg hr => ⟨fun v hv => hg.cell (hs.1 v hv) (fun e => by have := hr Bn e.symm; omega), fun v hv => hg.cell (hs.2.1 v hv) (fun e => by have := hr Bm e.symm; omega), Nat.le_trans hs.2.2 hg.size⟩
set_option maxRecDepth 100000 in
set_option maxHeartbeats 2000000 in
theorem Divisor_any (a : Option Addr) (n cap k : Nat) (rows : List (List Int)) (w : World) (hr : RowsAt w a n rows) (hsq : Sq n rows) (hent : ∀ i j, -20 ≤ fn rows i j ∧ fn rows i j ≤ 20) (hk0 : 0 < k) (hkn : k ≤ n) (hn : n ≤ 3) :
    Calls Tryd.prog 17 #[.slice a n cap, .int .i64 k] w fun e w' => e = .returned (.int .i64 (divV n k (fn rows))) ∧ Below w.heap.size w w' := by
  have HR := Lib.hid hr
  have HSQ := Lib.hid hsq
  have HENT := Lib.hid hent
  obtain ⟨V, hV⟩ : ∃ V, V = divV n k (fn rows) := ⟨_, rfl⟩
  rw [← hV]
  have HV := Lib.hid hV
  clear hr hsq hent hV
  refine (callsIn_wide (n := 9)).1 ?_
  refine callsIn_of_wp_marks Tryd.func17 rfl trivial ?_ rfl
  simp only [Tryd.ntmps17, List.size_toArray, List.length_cons, List.length_nil, Nat.reduceAdd, Nat.reduceSub, Array.replicate_succ, Array.replicate_zero, List.push_toArray, List.append_toArray, List.nil_append, List.cons_append]
  gi_wp2
  refine ⟨trivial, (Choices_in Fence.wide _ trivial rfl n k _).mono ?_⟩
  rintro e w3 ⟨rfl, rfl⟩
  gi_wp2
  have b4 : w.heap.size + 1 + 1 + 1 + 1 = w.heap.size + 4 := rfl
  obtain ⟨B4, hB4⟩ : ∃ B4, B4 = w.heap.size + 1 + 1 + 1 + 1 := ⟨_, rfl⟩
  rw [← hB4]
  obtain ⟨B3, hB3⟩ : ∃ B3, B3 = w.heap.size + 1 + 1 + 1 := ⟨_, rfl⟩
  rw [← hB3]
  obtain ⟨Bo, hBo⟩ : ∃ Bo, Bo = w.heap.size + 1 + 1 := ⟨_, rfl⟩
  rw [← hBo]
  obtain ⟨Bk, hBk⟩ : ∃ Bk, Bk = w.heap.size + 1 := ⟨_, rfl⟩
  rw [← hBk]
  have cM : (((((w.alloc (.cells #[.slice a n cap] 22)).alloc (.cells #[.int .i64 (k : Int)] 3)).alloc (.cells #[.int .i64 0] 3)).alloc (.cells #[.int .i64 (n : Int)] 3)).alloc (.cells #[.int .i64 (k : Int)] 3)).cell? ⟨w.heap.size, 0, none⟩ = some (.slice a n cap) := by go_simp
  have cK : (((((w.alloc (.cells #[.slice a n cap] 22)).alloc (.cells #[.int .i64 (k : Int)] 3)).alloc (.cells #[.int .i64 0] 3)).alloc (.cells #[.int .i64 (n : Int)] 3)).alloc (.cells #[.int .i64 (k : Int)] 3)).cell? ⟨Bk, 0, none⟩ = some (.int .i64 (k : Int)) := by rw [hBk]; go_simp
  have cO : (((((w.alloc (.cells #[.slice a n cap] 22)).alloc (.cells #[.int .i64 (k : Int)] 3)).alloc (.cells #[.int .i64 0] 3)).alloc (.cells #[.int .i64 (n : Int)] 3)).alloc (.cells #[.int .i64 (k : Int)] 3)).cell? ⟨Bo, 0, none⟩ = some (.int .i64 0) := by rw [hBo]; go_simp
  have fO : (((((w.alloc (.cells #[.slice a n cap] 22)).alloc (.cells #[.int .i64 (k : Int)] 3)).alloc (.cells #[.int .i64 0] 3)).alloc (.cells #[.int .i64 (n : Int)] 3)).alloc (.cells #[.int .i64 (k : Int)] 3)).frozen? ⟨Bo, 0, none⟩ = false := by rw [hBo]; go_simp
  have c3 : (((((w.alloc (.cells #[.slice a n cap] 22)).alloc (.cells #[.int .i64 (k : Int)] 3)).alloc (.cells #[.int .i64 0] 3)).alloc (.cells #[.int .i64 (n : Int)] 3)).alloc (.cells #[.int .i64 (k : Int)] 3)).cell? ⟨B3, 0, none⟩ = some (.int .i64 (n : Int)) := by rw [hB3]; go_simp
  have c4 : (((((w.alloc (.cells #[.slice a n cap] 22)).alloc (.cells #[.int .i64 (k : Int)] 3)).alloc (.cells #[.int .i64 0] 3)).alloc (.cells #[.int .i64 (n : Int)] 3)).alloc (.cells #[.int .i64 (k : Int)] 3)).cell? ⟨B4, 0, none⟩ = some (.int .i64 (k : Int)) := by rw [hB4]; go_simp
  have hsz : (((((w.alloc (.cells #[.slice a n cap] 22)).alloc (.cells #[.int .i64 (k : Int)] 3)).alloc (.cells #[.int .i64 0] 3)).alloc (.cells #[.int .i64 (n : Int)] 3)).alloc (.cells #[.int .i64 (k : Int)] 3)).heap.size = w.heap.size + 5 := by simp
  have hbW : Below w.heap.size w (((((w.alloc (.cells #[.slice a n cap] 22)).alloc (.cells #[.int .i64 (k : Int)] 3)).alloc (.cells #[.int .i64 0] 3)).alloc (.cells #[.int .i64 (n : Int)] 3)).alloc (.cells #[.int .i64 (k : Int)] 3)) := (((((Below.refl w.heap.size w).alloc (Nat.le_refl _) _).alloc (by simp) _).alloc (by simp; omega) _).alloc (by simp; omega) _).alloc (by simp; omega) _
  obtain ⟨W0, hW0⟩ : ∃ W0, (((((w.alloc (.cells #[.slice a n cap] 22)).alloc (.cells #[.int .i64 (k : Int)] 3)).alloc (.cells #[.int .i64 0] 3)).alloc (.cells #[.int .i64 (n : Int)] 3)).alloc (.cells #[.int .i64 (k : Int)] 3)) = W0 := ⟨_, rfl⟩
  rw [hW0] at cM cK cO fO c3 c4 hsz hbW ⊢
  have ho1 : w.heap.size < Bk := by omega
  have ho2 : Bk < Bo := by omega
  have ho3 : Bo < B3 := by omega
  have ho4 : B3 < B4 := by omega
  have ho5 : B4 < W0.heap.size := by omega
  clear hW0 b4 hB4 hB3 hBo hBk hsz
  have hbd1 : Below W0.heap.size W0 (W0.alloc (.deferred (some []))) := (Below.refl _ _).alloc (Nat.le_refl _) _
  refine range_mem (W0.heap.size + 1) W0.heap.size [{ target := .collected W0.heap.size, args := #[] }] (W0.alloc (.deferred (some []))) (fun fn => ⟨run_enterLoop_outer _ _ _ _ _, by simp⟩) hbd1 (by omega) (gf := 30) (lb := #[.pointer (some ⟨B3, 0, none⟩), .pointer (some ⟨B4, 0, none⟩)]) rfl trivial (enters_of Tryd.func30 (by kernel_rfl) rfl)
    (Choices1_seq Fence.wide _ trivial rfl (by omega) B3 B4 n k hn W0 c3 c4) KpC.trans (fun W l o o' _ h hc _ => kpc_put W l o o' h hc) (Below.refl _ _) (fun _ => rfl)
    (fun pre W => (W.cell? ⟨w.heap.size, 0, none⟩ = some (.slice a n cap) ∧ W.cell? ⟨Bk, 0, none⟩ = some (.int .i64 (k : Int))) ∧ (W.cell? ⟨Bo, 0, none⟩ = some (.int .i64 (rowsV n k (fn rows) 0 (pre.map (·.2)))) ∧ W.frozen? ⟨Bo, 0, none⟩ = false) ∧ Below w.heap.size w W ∧ Below 0 W0 W) ?hI ?h0
    (fun x a' W => ∃ Bx, W.cell? ⟨Bx, 0, none⟩ = some (.slice x.1.1 x.2.length x.1.2) ∧ W0.heap.size ≤ Bx ∧ IntsAt W x.1.1 x.2.length (natI x.2) ∧ (∀ b o t, x.1.1 = some ⟨b, o, t⟩ → W0.heap.size ≤ b) ∧ x.2.length = k ∧ (∀ i ∈ x.2, i < n) ∧ a' = { tmps := #[.slice a n cap, .int .i64 (k : Int), .pointer (some ⟨w.heap.size, 0, none⟩), .pointer (some ⟨Bk, 0, none⟩), .int .i64 0, .pointer (some ⟨Bo, 0, none⟩), .pointer (some ⟨Bx, 0, none⟩), undef, .slice a n cap, .int .i64 (n : Int), .int .i64 (k : Int), .func (.func 30) #[] #[.pointer (some ⟨B3, 0, none⟩), .pointer (some ⟨B4, 0, none⟩)], .slice x.1.1 x.2.length x.1.2, undef, undef, undef, undef, undef, undef, undef, undef, undef, undef, undef, undef, undef], defers := [] }) ?hAx ?assign ?body ?done
  case hI => exact FreshFrom.and (FreshFrom.and (fresh_cell (by omega)) (fresh_cell (by omega))) (FreshFrom.and (fresh_cellF (v := fun pre : List Sl => .int .i64 (rowsV n k (fn rows) 0 (pre.map (·.2)))) (by omega)) (FreshFrom.and (fresh_below (Nat.le_refl _) (by omega)) (fresh_below (by omega) (by omega))))
  case h0 => exact ⟨⟨cell_alloc_l _ cM, cell_alloc_l _ cK⟩, ⟨cell_alloc_l _ cO, frozen_alloc_l _ cO fO⟩, hbW.alloc hbW.size _, (Below.refl 0 W0).alloc (Nat.zero_le _) _⟩
  case hAx => exact fun x a' => Own.from (fun s A B row ⟨Bx, h1, h2, h3, h4⟩ hg hr => ⟨Bx, cell_kept h1 hg hr, h2, own_ints h3 hg hr, h4⟩) _
  case assign =>
    rintro l pre x W K ⟨⟨hm, hk⟩, ⟨ho, hf⟩, hbel, hb0⟩ ⟨hi, hblk, hlen, hlt⟩ hK
    have HK := Lib.hid hK
    have H1 := Lib.hid (show _ ∧ _ ∧ _ ∧ _ from ⟨hm, hk, ho, hf⟩)
    have H2 := Lib.hid (show _ ∧ _ ∧ _ ∧ _ from ⟨hi, hblk, hlen, hlt⟩)
    have hs1 := hbel.size
    have hs0 := hb0.size
    clear hK hm hk ho hf hi hblk hlen hlt
    rw [show encS x = #[.slice x.1.1 x.2.length x.1.2] from rfl]
    gi_wp2
    refine HK.out _ _ ((KeepsOthers.alloc _ _).from _) (kpc_alloc _ _) ⟨⟨cell_alloc_l _ H1.out.1, cell_alloc_l _ H1.out.2.1⟩, ⟨cell_alloc_l _ H1.out.2.2.1, frozen_alloc_l _ H1.out.2.2.1 H1.out.2.2.2⟩, hbel.alloc hs1 _, hb0.alloc (Nat.zero_le _) _⟩ ⟨W.heap.size, ?_, hs0, ?_, H2.out.2.1, H2.out.2.2.1, H2.out.2.2.2, rfl⟩
    · go_simp
    · exact H2.out.1.call ((Below.refl _ W).alloc (Nat.le_refl _) _)
  case body =>
    rintro l pre x a' Wc hl ⟨r, hr⟩ ⟨⟨hm, hk⟩, ⟨ho, hf⟩, hbel, hb0⟩ ⟨Bx, hx, hBx, hi, hblk, hlen, hlt, rfl⟩
    have HR2 := Lib.hid hr
    have H1 := Lib.hid (show _ ∧ _ ∧ _ ∧ _ from ⟨hm, hk, ho, hf⟩)
    have H2 := Lib.hid (show _ ∧ _ ∧ _ ∧ _ from ⟨hi, hblk, hlen, hlt⟩)
    have hs1 := hbel.size
    have hs0 := hb0.size
    obtain ⟨acc, hacc⟩ : ∃ acc, acc = rowsV n k (fn rows) 0 (pre.map (·.2)) := ⟨_, rfl⟩
    have HACC := Lib.hid hacc
    clear hr ho hf hi hblk hlen hlt hacc
    gi_wp2
    refine ⟨trivial, (CallsIn.inRound l (Choices_in Fence.wide _ trivial rfl n k _)).mono ?_⟩
    rintro e w3 ⟨rfl, rfl⟩
    gi_wp2
    have hbc : Below Wc.heap.size Wc ((Wc.alloc (.cells #[.int .i64 (n : Int)] 3)).alloc (.cells #[.int .i64 (k : Int)] 3)) := ((Below.refl _ Wc).alloc (Nat.le_refl _) _).alloc (by simp) _
    have hko := keeps_below hbc
    have hrd := hko.same _ _ HR2.out rfl
    have g3 : ((Wc.alloc (.cells #[.int .i64 (n : Int)] 3)).alloc (.cells #[.int .i64 (k : Int)] 3)).cell? ⟨Wc.heap.size, 0, none⟩ = some (.int .i64 (n : Int)) := by go_simp
    have g4 : ((Wc.alloc (.cells #[.int .i64 (n : Int)] 3)).alloc (.cells #[.int .i64 (k : Int)] 3)).cell? ⟨Wc.heap.size + 1, 0, none⟩ = some (.int .i64 (k : Int)) := by go_simp
    have hsd : ((Wc.alloc (.cells #[.int .i64 (n : Int)] 3)).alloc (.cells #[.int .i64 (k : Int)] 3)).heap.size = Wc.heap.size + 2 := by simp
    have hfro : ((Wc.alloc (.cells #[.int .i64 (n : Int)] 3)).alloc (.cells #[.int .i64 (k : Int)] 3)).frozen? ⟨Bo, 0, none⟩ = false := frozen_alloc_l _ (cell_alloc_l _ H1.out.2.2.1) (frozen_alloc_l _ H1.out.2.2.1 H1.out.2.2.2)
    obtain ⟨Wd, hWd⟩ : ∃ Wd, ((Wc.alloc (.cells #[.int .i64 (n : Int)] 3)).alloc (.cells #[.int .i64 (k : Int)] 3)) = Wd := ⟨_, rfl⟩
    rw [hWd] at hbc hko hrd g3 g4 hsd hfro ⊢
    have HCE := Lib.hid (show ∀ b o u, Wc.cell? ⟨b, o, none⟩ = some u → Wd.cell? ⟨b, o, none⟩ = some u from fun b o u h => (hbc.cell (p := ⟨b, o, none⟩) (World.block_lt_of_cell? _ _ h)).trans h)
    clear hWd
    obtain ⟨bx, ox, hbx, hblx, _⟩ := H2.out.1.some (by rw [H2.out.2.2.1]; exact hk0)
    have hxb : ∀ b o t, x.1.1 = some ⟨b, o, t⟩ → b < Wd.heap.size := fun b o t e => by rw [hbx] at e; simp at e; omega
    have hxo : ∀ b o t, x.1.1 = some ⟨b, o, t⟩ → b ≠ Bo := fun b o t e => by have := H2.out.2.1 b o t e; omega
    clear hbx hblx
    have hoc : Bo < Wc.heap.size := World.block_lt_of_cell? _ _ H1.out.2.2.1
    have hxc : Bx < Wc.heap.size := World.block_lt_of_cell? _ _ hx
    refine range_mem Wd.heap.size r.defers [] Wd (fun fn => ⟨run_enterLoop_inner hrd _ _ _ _ _, rfl⟩) (Below.refl _ _) (by omega) (gf := 30) (lb := #[.pointer (some ⟨Wc.heap.size, 0, none⟩), .pointer (some ⟨Wc.heap.size + 1, 0, none⟩)]) rfl trivial (enters_of Tryd.func30 (by kernel_rfl) rfl)
      (SeqMem.inRound l (Choices1_seq Fence.wide _ trivial rfl (by omega) Wc.heap.size (Wc.heap.size + 1) n k hn Wd g3 g4)) KpC.trans (fun W l o o' _ h hc _ => kpc_put W l o o' h hc) (Below.refl _ _) (fun _ => rfl)
      (fun pre2 W => (W.cell? ⟨w.heap.size, 0, none⟩ = some (.slice a n cap) ∧ W.cell? ⟨Bk, 0, none⟩ = some (.int .i64 (k : Int))) ∧ (W.cell? ⟨Bo, 0, none⟩ = some (.int .i64 (colsV (fn rows) k x.2 acc (pre2.map (·.2)))) ∧ W.frozen? ⟨Bo, 0, none⟩ = false) ∧ (W.cell? ⟨Bx, 0, none⟩ = some (.slice x.1.1 x.2.length x.1.2) ∧ IntsAt W x.1.1 x.2.length (natI x.2)) ∧ (KeepsFrom W0.heap.size Wc W ∧ KpC B3 B4 Wc W) ∧ Below w.heap.size w W ∧ Below 0 W0 W) ?hI2 ?h02
      (fun y a' W => IntsAt W y.1.1 y.2.length (natI y.2) ∧ y.2.length = k ∧ (∀ i ∈ y.2, i < n) ∧ a' = { tmps := #[.slice a n cap, .int .i64 (k : Int), .pointer (some ⟨w.heap.size, 0, none⟩), .pointer (some ⟨Bk, 0, none⟩), .int .i64 0, .pointer (some ⟨Bo, 0, none⟩), .pointer (some ⟨Bx, 0, none⟩), .slice y.1.1 y.2.length y.1.2, .slice a n cap, .int .i64 (n : Int), .int .i64 (k : Int), .func (.func 30) #[] #[.pointer (some ⟨B3, 0, none⟩), .pointer (some ⟨B4, 0, none⟩)], .slice x.1.1 x.2.length x.1.2, .slice a n cap, .int .i64 (n : Int), .int .i64 (k : Int), .func (.func 30) #[] #[.pointer (some ⟨Wc.heap.size, 0, none⟩), .pointer (some ⟨Wc.heap.size + 1, 0, none⟩)], .slice y.1.1 y.2.length y.1.2, undef, undef, undef, undef, undef, undef, undef, undef], defers := [] }) ?hAx2 ?assign2 ?body2 ?done2
    case hI2 => exact FreshFrom.and (FreshFrom.and (fresh_cell (by omega)) (fresh_cell (by omega))) (FreshFrom.and (fresh_cellF (v := fun pre2 : List Sl => .int .i64 (colsV (fn rows) k x.2 acc (pre2.map (·.2)))) (by omega)) (FreshFrom.and (FreshFrom.and (fresh_cell (by omega)) (fresh_ints hxb)) (FreshFrom.and (FreshFrom.and (fresh_keeps (by omega)) (fresh_kpc (by omega) (by omega))) (FreshFrom.and (fresh_below (Nat.le_refl _) (by omega)) (fresh_below (by omega) (by omega))))))
    case h02 => exact ⟨⟨HCE.out _ _ _ H1.out.1, HCE.out _ _ _ H1.out.2.1⟩, ⟨by rw [show colsV (fn rows) k x.2 acc (([] : List Sl).map (·.2)) = acc from rfl, HACC.out]; exact HCE.out _ _ _ H1.out.2.2.1, hfro⟩, ⟨HCE.out _ _ _ hx, H2.out.1.call hbc⟩, ⟨hko.from _, ⟨fun v hv => HCE.out _ _ _ hv, fun v hv => HCE.out _ _ _ hv, hbc.size⟩⟩, hbel.trans (hbc.mono hs1), hb0.trans (hbc.mono (Nat.zero_le _))⟩
    case hAx2 => exact fun x a' => Own.from (fun s A B row ⟨h1, h2⟩ hg hr => ⟨own_ints h1 hg hr, h2⟩) _
    case assign2 =>
      rintro l2 pre2 y W K hI ⟨hyi, hyb, hyl, hyn⟩ hK
      have HK := Lib.hid hK
      have HI := Lib.hid hI
      have HY := Lib.hid (show _ ∧ _ ∧ _ from ⟨hyi, hyl, hyn⟩)
      clear hK hI hyi hyb hyl hyn
      rw [show encS y = #[.slice y.1.1 y.2.length y.1.2] from rfl]
      gi_wp2
      exact HK.out _ _ (KeepsFrom.refl _ _) (kpc_refl _) HI.out ⟨HY.out.1, HY.out.2.1, HY.out.2.2, rfl⟩
    case body2 =>
      rintro l2 pre2 y a' W hl2 ⟨r2, hr2⟩ ⟨⟨hm', hk'⟩, ⟨ho', hf'⟩, ⟨hx', hxi⟩, ⟨hkf, hkp⟩, hbel', hb0'⟩ ⟨hyi, hyl, hyn, rfl⟩
      have hxl := H2.out.2.2.1
      have hxn := H2.out.2.2.2
      have hP : ∀ W5, Below W.heap.size W W5 → Calls Tryd.prog 25 #[.slice a n cap, .slice x.1.1 x.2.length x.1.2, .slice y.1.1 y.2.length y.1.2] W5 fun e w' => (∃ G, e = .returned (.slice (some ⟨G, 0, none⟩) k k) ∧ RowsAt w' (some ⟨G, 0, none⟩) k (partL (fn rows) x.2 y.2)) ∧ Below W5.heap.size W5 w' := by
        intro W5 hb5
        have i1 := hxi.call hb5
        have i2 := hyi.call hb5
        rw [hxl] at i1 ⊢
        rw [hyl] at i2 ⊢
        have hget : ∀ (z : List Nat), z.length = k → (∀ i ∈ z, i < n) → ∀ i, i < k → z.getD i 0 < n := fun z hz h i hi => by
          have : z.getD i 0 = z[i]'(by omega) := by simp [List.getD, show i < z.length by omega]
          rw [this]; exact h _ (List.getElem_mem _)
        exact Part_any a x.1.1 y.1.1 n cap k x.1.2 y.1.2 rows x.2 y.2 W5 ((HR.out.call hbel').call hb5) HSQ.out i1 i2 hk0 (by omega) (by omega) hxl hyl (hget _ hxl hxn) (hget _ hyl hyn)
      have hmb := minor_bd HENT.out (k := k) (by omega) x.2 y.2
      have hab : acc.natAbs ≤ 48000 := by rw [HACC.out]; exact rowsV_bd HENT.out (by omega) _ _ (by omega)
      have hcb := cols_bd HENT.out (k := k) (by omega) x.2 (pre2.map (·.2)) acc hab
      have hsn := colsV_snoc (fn rows) k x.2 acc (pre2.map (·.2)) y.2
      rw [show pre2.map (·.2) ++ [y.2] = (pre2 ++ [y]).map (·.2) by simp] at hsn
      have hD : ∀ (G : Nat) (W5 : World), RowsAt W5 (some ⟨G, 0, none⟩) k (partL (fn rows) x.2 y.2) → Calls Tryd.prog 20 #[.slice (some ⟨G, 0, none⟩) k k] W5 fun e w' => e = .returned (.int .i64 (detN k (partL (fn rows) x.2 y.2))) ∧ Below W5.heap.size W5 w' := by
        intro G W5 h
        have := Det_any k (some ⟨G, 0, none⟩) k (partL (fn rows) x.2 y.2) W5 (by omega) (Nat.le_refl _) (partL_sq _ hxl hyl) h
        rw [wrap_in (by omega) (by omega)] at this
        exact this
      obtain ⟨dd, hdd⟩ : ∃ dd, dd = detN k (partL (fn rows) x.2 y.2) := ⟨_, rfl⟩
      obtain ⟨A2, hA2⟩ : ∃ A2, A2 = colsV (fn rows) k x.2 acc (pre2.map (·.2)) := ⟨_, rfl⟩
      rw [← hdd] at hmb hD hsn
      rw [← hA2] at hcb ho' hsn
      have hGc := fun W5 => Gcd_any A2 dd W5 (by omega) (by omega)
      have HP := Lib.hid hP
      have HD := Lib.hid hD
      have HG := Lib.hid hGc
      have HSN := Lib.hid hsn
      have hob : Bo < W.heap.size := World.block_lt_of_cell? _ _ ho'
      have HCE2 := Lib.hid (show _ ∧ _ ∧ _ ∧ _ from ⟨hm', hk', hxi, hx'⟩)
      have HKF := Lib.hid (show _ ∧ _ from ⟨hkf, hkp⟩)
      have hd : 1 ≤ 9 - 1 - 1 := by omega
      have hmx : Tryd.prog.follows .mixedOrders = true := by kernel_rfl
      clear hP hD hGc hsn hdd hA2 hyi hxi hyl hyn hxl hxn hr2 hmb hab hcb hk' hkf hkp
      gi_wp2
      gi_region_with_o (first
        | (refine ⟨trivial, ?_⟩; gi_at_call 25; refine (CallsIn.inRound l2 (CallsIn.inRound l (callsIn_wide.2 (HP.out _ Cls.start)))).mono ?_; rintro e w5 ⟨⟨G5, rfl, hG5⟩, hb5⟩; have hB5 : Below W.heap.size W w5 := Below.trans Cls.start hb5; have q5 := (hB5.cell (p := ⟨Bo, 0, none⟩) hob).trans ho'; have f5 := (hB5.frozen (p := ⟨Bo, 0, none⟩) hob).trans hf')
        | (refine ⟨trivial, ?_⟩; gi_at_call 20; refine (CallsIn.inRound l2 (CallsIn.inRound l (callsIn_wide.2 (HD.out _ _ hG5)))).mono ?_; rintro e w6 ⟨rfl, hb6⟩; have hB6 : Below W.heap.size W w6 := below_trans hB5 hb6; have q6 := (hB6.cell (p := ⟨Bo, 0, none⟩) hob).trans ho'; have f6 := (hB6.frozen (p := ⟨Bo, 0, none⟩) hob).trans hf')
        | (refine ⟨trivial, ?_⟩; gi_at_call 24; refine (CallsIn.inRound l2 (CallsIn.inRound l (callsIn_wide.2 (HG.out _)))).mono ?_; rintro e w7 ⟨rfl, hb7⟩; have hB7 : Below W.heap.size W w7 := below_trans hB6 hb7; have q7 := (hB7.cell (p := ⟨Bo, 0, none⟩) hob).trans ho'; have f7 := (hB7.frozen (p := ⟨Bo, 0, none⟩) hob).trans hf'))
      all_goals gi_wp2
      all_goals
        have hs' := hbel'.size
        have hs0' := hb0'.size
        refine ⟨((keeps_below hB7).trans (KeepsOthers.setCell _ _ _)).from _, kpc_store hB7 _ (by omega) (by omega), ⟨call_store hB7 _ (by omega) HCE2.out.1, call_store hB7 _ (by omega) HCE2.out.2.1⟩, ⟨?_, by rw [World.frozen?_setCell]; exact f7⟩, ⟨call_store hB7 _ (by omega) HCE2.out.2.2.2, ints_store hB7 _ hxo HCE2.out.2.2.1⟩,
          ⟨HKF.out.1.trans (((keeps_below hB7).trans (KeepsOthers.setCell _ _ _)).from _), HKF.out.2.trans (kpc_store hB7 _ (by omega) (by omega))⟩, (hbel'.trans (hB7.mono hs')).setCell (p := ⟨Bo, 0, none⟩) (by show w.heap.size ≤ Bo; omega) _, (hb0'.trans (hB7.mono (Nat.zero_le _))).setCell (p := ⟨Bo, 0, none⟩) (Nat.zero_le _) _⟩
        rw [HSN.out]
        exact World.cell?_setCell_same' _ _ _ (by rw [q7]; rfl)
    case done2 =>
      rintro xs W hS ⟨⟨hm', hk'⟩, ⟨ho', hf'⟩, ⟨hx', hxi⟩, ⟨hkf, hkp⟩, hbel', hb0'⟩ hkd
      rw [hS] at ho'
      have hsn := rowsV_snoc n k (fn rows) 0 (pre.map (·.2)) x.2
      rw [← HACC.out, show pre.map (·.2) ++ [x.2] = (pre ++ [x]).map (·.2) by simp] at hsn
      rw [← hsn] at ho'
      have HF := Lib.hid (show _ ∧ _ ∧ _ ∧ _ ∧ _ ∧ _ ∧ _ ∧ _ from ⟨hm', hk', ho', hf', hkf, hkp, hbel', hb0'⟩)
      clear hsn hS ho' hf' hkf hkp hbel' hb0' hm' hk'
      gi_wp2
      exact ⟨HF.out.2.2.2.2.1, HF.out.2.2.2.2.2.1, ⟨HF.out.1, HF.out.2.1⟩, ⟨HF.out.2.2.1, HF.out.2.2.2.1⟩, HF.out.2.2.2.2.2.2.1, HF.out.2.2.2.2.2.2.2⟩
  case done =>
    rintro xs W hS ⟨⟨hm, hk⟩, ⟨ho, hf⟩, hbel, hb0⟩ hkeep
    have hK : W.heap[W0.heap.size]? = some (.deferred (some [])) := hkeep.same _ _ (Nat.le_refl _) (World.alloc_heap_new W0 _) rfl
    rw [hS, show rowsV n k (fn rows) 0 (chL n k) = V from HV.out.symm] at ho
    have hs1 := hbel.size
    clear hS hkeep
    gi_wp2
    refine ⟨by simp, .inl ⟨_, _, rfl, run_takeDeferred hK, ?_⟩⟩
    exact ⟨_, results_tmp rfl _ _ _, rfl, hbel.trans (belowK_b (w := w) (Nat.le_refl _) W W0.heap.size _ _ (by omega) hK rfl rfl)⟩
end Go.Proofs.YtllomialkiaccaaDoor
