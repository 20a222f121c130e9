/- Contract of book's number. -/
import Derived.Test.YtokneabcgmjhdaaGreatDoorLogMath
import Derived.Test.YtokneabcgmjhdaaGreatDoorRefSum
namespace Go.Proofs.YtokneabcgmjhdaaGreatDoor
open Go.RowKit
set_option linter.unusedVariables false
set_option linter.unusedSimpArgs false

/-- what the library's variables hold, whatever is done from B on -/
def Glob (B : Nat) (w : World) : Prop := Tab B w ∧ (5 < B ∧ ∃ ev, w.cell? ⟨5, 0, none⟩ = some ev ∧ (ev = .nilIface ∨ ∃ te pe, ev = .iface te pe)) ∧ (1 < B ∧ ∃ m, w.cell? ⟨1, 0, none⟩ = some (.int .i64 m))
theorem Glob.call {B : Nat} {w w' : World} (h : Glob B w) (hb : Below B w w') : Glob B w' := by
  obtain ⟨h1, ⟨h2, ev, h3, h4⟩, h5, m, h6⟩ := h
  exact ⟨h1.call hb, ⟨h2, ev, by rw [hb.cell (p := ⟨5, 0, none⟩) h2]; exact h3, h4⟩, h5, m, by rw [hb.cell (p := ⟨1, 0, none⟩) h5]; exact h6⟩
theorem Glob.above {B : Nat} {w w' : World} (h : Glob B w) (hB : B ≤ w.heap.size) (hb : Below w.heap.size w w') : Glob B w' := h.call (hb.mono hB)
theorem toList_data' (s : ByteArray) : s.toList = s.data.toList := Lib.toList_data s

/-- a text of digits, read -/
theorem Atoi_digits (s : ByteArray) (B : Nat) (w : World) (hG : Glob B w) (hBw : B ≤ w.heap.size) (hs : s.size ≤ 100000) (hne : s.data.toList ≠ []) (hd : ∀ b ∈ s.data.toList, isDig b = true) :
    Calls Tryz.prog 48 #[.string s] w fun e w' => (∃ v t, e = .returned (.tuple #[.int .i64 v, t]) ∧ (valF 0 s.data.toList < 9223372036854775808 → v = valF 0 s.data.toList ∧ t = .nilIface) ∧ (9223372036854775808 ≤ valF 0 s.data.toList → ∃ te pe, t = .iface te pe)) ∧ Below w.heap.size w w' := by
  obtain ⟨h1, h2⟩ := atoi_digits hne hd
  by_cases hv : valF 0 s.data.toList < 9223372036854775808
  · refine (Tryz.strconv_Atoi_ok s (by omega) _ (h1 hv) w).mono ?_
    rintro e w' ⟨rfl, hw⟩
    refine ⟨⟨_, _, rfl, fun _ => ⟨rfl, rfl⟩, fun h => by omega⟩, ?_⟩
    rcases hw with rfl | ⟨t, rfl⟩
    · exact Below.refl _ _
    · exact Lib.bytesWorld_below _ _ _
  · obtain ⟨-, ⟨-, ev, h3, h4⟩, -⟩ := hG
    refine (Tryz.strconv_Atoi_range s (by omega) (h2 (by omega)) ev w h3 h4).mono ?_
    rintro e w' ⟨N, rfl, -, -, hb⟩
    exact ⟨⟨_, _, rfl, fun h => absurd h hv, fun _ => ⟨_, _, rfl⟩⟩, hb⟩
theorem Trim_digits (s : ByteArray) (w : World) (hs : s.size ≤ 100000) :
    Calls Tryz.prog 47 #[.string s, .string ⟨#[48, 49, 50, 51, 52, 53, 54, 55, 56, 57]⟩] w fun e w' => (∃ x : List UInt8, e = .returned (.string ⟨x.toArray⟩) ∧ (x = [] ↔ ∀ b ∈ s.data.toList, isDig b = true)) ∧ Below w.heap.size w w' := by
  refine (Any.strings_Trim_laid Tryz.lays160 (by kernel_rfl) s ⟨#[48, 49, 50, 51, 52, 53, 54, 55, 56, 57]⟩ w (by omega) (by decide) (ascii_of_all (by decide))).mono ?_
  rintro e w' ⟨rfl, hb⟩
  exact ⟨⟨_, rfl, trim_digits _⟩, hb⟩
set_option maxRecDepth 100000 in
set_option maxHeartbeats 1000000 in
theorem Number_any (s : ByteArray) (B : Nat) (w : World) (hG : Glob B w) (hBw : B ≤ w.heap.size) (hs : s.size ≤ 100000) :
    Calls Tryz.prog 118 #[.string s] w fun e w' => (∃ v : Int, e = .returned (.tuple #[.int .i64 v, .bool (numL s.data.toList).isSome]) ∧ ∀ n, numL s.data.toList = some n → v = n) ∧ Below w.heap.size w w' := by
  by_cases h0 : s.data.toList = []
  · have hA : s.toList.isEmpty = true := by rw [toList_data', h0]; rfl
    have hN : numL s.data.toList = none := by rw [h0]; rfl
    rw [hN]
    clear h0 hN
    go_enter Tryz.func118, Tryz.ntmps118
    go_wp2_with fail
    go_ret2
    exact ⟨⟨0, rfl, fun n h => by cases h⟩, Below.refl _ _⟩
  · have hA : s.toList.isEmpty = false := by
      rw [toList_data']
      cases hh : s.data.toList with
      | nil => exact absurd hh h0
      | cons a b => rfl
    have hp0 : 0 < s.size := by
      rw [← size_list]
      exact List.length_pos_iff.2 h0
    have hhd : s.data.toList.head? = some (s[0]'hp0) := by
      rw [List.head?_eq_getElem?, byte_at rfl rfl hp0, List.getD_eq_getElem?_getD]
      rw [List.getElem?_eq_getElem (by rw [size_list]; exact hp0)]
      rfl
    by_cases hlz : 1 < s.size ∧ s[0]'hp0 = 48
    · obtain ⟨hl, hz⟩ := hlz
      have hli : (1 : Int) < s.size := by omega
      have hN : numL s.data.toList = none := by
        unfold numL
        rw [if_neg]
        rintro ⟨hp, _⟩
        exact (plain_spec.1 hp).2.1 (by rw [size_list]; exact hl) (by rw [hhd, hz])
      rw [hN]
      clear hN hhd h0
      go_enter Tryz.func118, Tryz.ntmps118
      go_wp2_with fail
      go_ret2
      exact ⟨⟨0, rfl, fun n h => by cases h⟩, Below.refl _ _⟩
    · have hnum : (∀ b ∈ s.data.toList, isDig b = true) → plainL s.data.toList = true := fun hd => plain_spec.2 ⟨h0, fun h1 h2 => hlz ⟨by rw [← size_list]; exact h1, by rw [hhd] at h2; exact Option.some.inj h2⟩, hd⟩
      have hg : (¬ (1 : Int) < s.size) ∨ ((1 : Int) < s.size ∧ (((s[0]'hp0).toNat : Int) == 48) = false) := by
        by_cases hl : 1 < s.size
        · refine Or.inr ⟨by omega, ?_⟩
          have : s[0]'hp0 ≠ 48 := fun h => hlz ⟨hl, h⟩
          have h2 : (s[0]'hp0).toNat ≠ 48 := fun h => this (UInt8.toNat_inj.1 h)
          have h3 : ((s[0]'hp0).toNat : Int) ≠ 48 := by omega
          simpa using h3
        · exact Or.inl (by omega)
      have HTR := Lib.hid (Trim_digits s w hs)
      have HAT := Lib.hid (fun W (h : Below w.heap.size w W) hd => Atoi_digits s B W (hG.above hBw h) (Nat.le_trans hBw h.size) hs h0 hd)
      have HNU := Lib.hid hnum
      have hnn : (¬ ∀ b ∈ s.data.toList, isDig b = true) → numL s.data.toList = none := fun h => by
        unfold numL
        rw [if_neg]
        rintro ⟨hp, _⟩
        exact h (plain_spec.1 hp).2.2
      have hns : (∀ b ∈ s.data.toList, isDig b = true) → numL s.data.toList = if valF 0 s.data.toList < 9223372036854775808 then some (valF 0 s.data.toList) else none := fun h => by
        unfold numL
        rw [hnum h]
        simp
      have HNN := Lib.hid hnn
      have HNS := Lib.hid hns
      clear hhd h0 hlz hnum hG hnn hns
      rcases hg with hg | ⟨hg, hgb⟩
      all_goals
        go_enter Tryz.func118, Tryz.ntmps118
        go_wp2_with fail
        go_at_call 47
        refine HTR.out.mono ?_
        rintro e w1 ⟨⟨x, rfl, hx⟩, hb1⟩
        by_cases hd : ∀ b ∈ s.data.toList, isDig b = true
        · obtain rfl := hx.2 hd
          have hE : (⟨([] : List UInt8).toArray⟩ : ByteArray).toList.isEmpty = true := by rw [toList_data']; rfl
          have hA2 := HAT.out w1 hb1 hd
          have HV := Lib.hid (HNS.out hd)
          clear hx HNU HNN HNS HTR HAT hd
          go_wp2_with fail
          go_at_call 48
          refine hA2.mono ?_
          rintro e w2 ⟨⟨v, t, rfl, h1, h2⟩, hb2⟩
          have hbb := below_trans hb1 hb2
          by_cases hv : valF 0 s.data.toList < 9223372036854775808
          · obtain ⟨rfl, rfl⟩ := h1 hv
            have HV2 := Lib.hid (HV.out.trans (if_pos hv))
            clear h1 h2 hv HV hA2
            generalize valF 0 s.data.toList = V at *
            go_wp2_with fail
            refine wp_region_quiet (C := Cls w2.heap.size w2) (by kernel_rfl) (by kernel_rfl) Cls.start ?_
            repeat
              (refine wpQuiet_step (fun K hK => ?_)
               go_simp
               first
                 | (refine hK _ ?_; clear hK K)
                 | (apply Exists.intro
                    refine ⟨fun w' hC => ?_, hK _ ?_⟩
                    · (obtain ⟨hr, hr2⟩ := hC.rules
                       first
                         | (fail)
                         | (go_simp; done)
                         | (go_simp; rfl))
                    clear hK K))
            refine wpQuiet_nil ?_
            intro w3 hw3
            go_wp2_with fail
            go_ret2
            rw [HV2.out]
            exact ⟨⟨_, rfl, fun n h => by cases h; rfl⟩, below_trans hbb hw3⟩
          · obtain ⟨te, pe, rfl⟩ := h2 (by omega)
            have HV2 := Lib.hid (HV.out.trans (if_neg hv))
            clear h1 h2 hv HV hA2
            go_wp2_with fail
            refine wp_region_quiet (C := Cls w2.heap.size w2) (by kernel_rfl) (by kernel_rfl) Cls.start ?_
            repeat
              (refine wpQuiet_step (fun K hK => ?_)
               go_simp
               first
                 | (refine hK _ ?_; clear hK K)
                 | (apply Exists.intro
                    refine ⟨fun w' hC => ?_, hK _ ?_⟩
                    · (obtain ⟨hr, hr2⟩ := hC.rules
                       first
                         | (fail)
                         | (go_simp; done)
                         | (go_simp; rfl))
                    clear hK K))
            refine wpQuiet_nil ?_
            intro w3 hw3
            go_wp2_with fail
            go_ret2
            rw [HV2.out]
            exact ⟨⟨_, rfl, fun n h => by cases h⟩, below_trans hbb hw3⟩
        · have hxe : x ≠ [] := fun e => hd (hx.1 e)
          obtain ⟨y, z, rfl⟩ := List.exists_cons_of_ne_nil hxe
          have hE : (y :: z).isEmpty = false := rfl
          have HV := Lib.hid (HNN.out hd)
          clear hx HNU HNN HNS HTR HAT hd hxe
          go_wp2_with fail
          go_ret2
          rw [HV.out]
          exact ⟨⟨0, rfl, fun n h => by cases h⟩, hb1⟩
end Go.Proofs.YtokneabcgmjhdaaGreatDoor
