/- Contract of the desk's crash. -/
import Derived.Test.YtokneabcgmjhdaaGreatDoorDeskDo
import Derived.WalkLawsBesides
namespace Go.Proofs.YtokneabcgmjhdaaGreatDoor
open Go.RowKit
set_option linter.unusedVariables false
set_option linter.unusedSimpArgs false

theorem ext_list (s : ByteArray) (k : Nat) : (s.extract 0 k).data.toList = s.data.toList.take k := by
  simp [ByteArray.data_extract]
theorem ext_all (s : ByteArray) : s.extract 0 s.size = s := by
  apply ByteArray.ext
  apply Array.ext'
  show (s.extract 0 s.size).data.toList = _
  rw [Lib.extract_to_end]
  rfl
set_option maxRecDepth 100000 in
set_option maxHeartbeats 4000000 in
theorem DoCrash (w : World) (B D Bk G : Nat) (vs : List Value) (vl : Value) (s : BS) (hd : DeskAt w B D Bk G vs vl s) (hok : DeskOk s) (hBw : B ≤ w.heap.size) (hG : Glob B w) (a : Option Addr) (cap n : Nat) (hn : IntsAt w a 1 [(n : Int)]) (hcap : 1 ≤ cap) :
    Calls Tryz.prog 46 #[.pointer (some ⟨D, 0, none⟩), .slice a 1 cap] w fun e w' => e = .returned (.tuple #[.string (ba (kFound ++ Lib.decDigits (openE ((textOf s.2).data.toList.take n)).2.1)), .nilIface]) ∧ DeskDone w w' B D Bk vs vl (openE ((textOf s.2).data.toList.take n)).2.2 := by
  obtain ⟨g, o, rfl, hg, c0'⟩ := hn.some (by omega)
  have c0 : w.cell? ⟨g, o, none⟩ = some (.int .i64 n) := c0' 0 (by omega)
  obtain ⟨d0, -⟩ := hd.cell
  have hD := hd.lt
  obtain ⟨s', hop, hok', hlen, -⟩ := hok.crash n
  have hsl := hok'.ok.len
  have HTX := Lib.hid (Text_any w B Bk G vs vl s.1 s.2 hd.book (Nat.le_trans hok.ok.len (by omega)) hok.ok.line)
  have hsh := hok.log.short
  have HC := Lib.hid (fun W (h : Below w.heap.size w W) => (h.cell (p := ⟨g, o, none⟩) hg).trans c0)
  have HDC := Lib.hid (fun W (h : Below w.heap.size w W) => (hd.call h).cell)
  have HD := Lib.hid hd
  have HG := Lib.hid hG
  have hn0 : (0 : Int) ≤ n := by omega
  rw [hop]
  have HR := Lib.hid (show ba (kFound ++ Lib.decDigits s'.2.length) = (⟨#[102, 111, 117, 110, 100, 32]⟩ : ByteArray) ++ ba (Lib.decDigits s'.2.length) from by rw [show (⟨#[102, 111, 117, 110, 100, 32]⟩ : ByteArray) = ba kFound from rfl, ba_app])
  have hz : (ba (Lib.decDigits s'.2.length)).size ≤ 4 := by rw [ba_size]; exact nDig_le (by omega)
  clear hd hok hG hok' hlen
  generalize textOf s.2 = T at *
  have hte : ∀ k : Nat, (k = n ∧ n ≤ T.size) ∨ (k = T.size ∧ T.size < n) → (T.extract 0 k).data.toList = T.data.toList.take n := fun k hk => by
    rw [ext_list]
    rcases hk with ⟨rfl, -⟩ | ⟨rfl, h⟩
    · rfl
    · rw [List.take_of_length_le (by rw [size_list]; exact Nat.le_refl _), List.take_of_length_le (by rw [size_list]; omega)]
  have HOP := Lib.hid (fun (k : Nat) (hk : (k = n ∧ n ≤ T.size) ∨ (k = T.size ∧ T.size < n)) W (h : Below w.heap.size w W) => (show Calls Tryz.prog 68 #[.string (T.extract 0 k)] W fun e w' => (∃ Bk' G' vs' vl', e = .returned (.tuple #[.pointer (some ⟨Bk', 0, none⟩), .int .i64 (s'.2.length : Nat), .nilIface]) ∧ BookAt w' w.heap.size Bk' G' vs' vl' s'.1 s'.2) ∧ Below W.heap.size W w' from by
    refine (Open_any (T.extract 0 k) W ((HG.out.above hBw h).mono (Nat.le_trans hBw h.size))).mono ?_
    rintro e w' ⟨h1, hb⟩
    rw [hte k hk, hop] at h1
    refine ⟨?_, hb⟩
    rcases h1 with ⟨Bk', G', vs', vl', h2, -, h3⟩ | ⟨-, h2⟩
    · exact ⟨Bk', G', vs', vl', h2, h3.mono h.size⟩
    · exact absurd rfl h2))
  clear hop hte
  have hcase : (n ≤ T.size ∧ (n : Int) ≤ (T.size : Int) ∧ ¬ (T.size : Int) < (n : Int)) ∨ (T.size < n ∧ (T.size : Int) < (n : Int) ∧ ¬ (n : Int) ≤ (T.size : Int)) := by omega
  rcases hcase with ⟨h1, h2, h3⟩ | ⟨h1, h2, h3⟩
  · have hm : min (n : Int) (T.size : Int) = (n : Int) := by omega
    have HO := Lib.hid (HOP.out n (Or.inl ⟨rfl, h1⟩))
    clear h1
    clear HOP
    go_enter Tryz.func46, Tryz.ntmps46
    go_wp2_with fail
    go_at_call 67
    refine HTX.out.mono ?_
    rintro e w1 ⟨rfl, hb1⟩
    have c1 := HC.out w1 hb1
    go_wp2_with fail
    go_at_call 68
    refine (HO.out w1 hb1).mono ?_
    rintro e w2 ⟨⟨Bk', G', vs', vl', rfl, hB'⟩, hb2⟩
    have hb12 := below_trans hb1 hb2
    obtain ⟨d1, f1⟩ := HDC.out w2 hb12
    have HDD := Lib.hid (DeskDone.swap HD.out hBw hb12 hB')
    have HIT2 := Lib.hid (itoa_nat (s'.2.length : Nat) (by omega) (by omega) (w2.setCell ⟨D, 0, none⟩ (.pointer (some ⟨Bk', 0, none⟩))) (HG.out.call (HDD.out.2.below HD.out)).1.here)
    have hb3 : Below B w (w2.setCell ⟨D, 0, none⟩ (.pointer (some ⟨Bk', 0, none⟩))) := (HDD.out.2.below HD.out)
    clear hB'
    go_wp2_with fail
    go_at_call 64
    refine (HIT2.out).mono ?_
    rintro e w4 ⟨rfl, hb4⟩
    rw [Int.toNat_natCast]
    generalize ba (Lib.decDigits s'.2.length) = z at *
    go_wp2_with fail
    go_ret2
    rw [HR.out]
    exact ⟨rfl, DeskDone.later HDD.out hb4⟩
  · have hm : min (n : Int) (T.size : Int) = (T.size : Int) := by omega
    have hO := HOP.out T.size (Or.inr ⟨rfl, h1⟩)
    rw [show T.extract 0 T.size = T from ext_all T] at hO
    have HO := Lib.hid hO
    clear hO
    clear h1
    clear HOP
    go_enter Tryz.func46, Tryz.ntmps46
    go_wp2_with fail
    go_at_call 67
    refine HTX.out.mono ?_
    rintro e w1 ⟨rfl, hb1⟩
    have c1 := HC.out w1 hb1
    go_wp2_with fail
    go_at_call 68
    refine (HO.out w1 hb1).mono ?_
    rintro e w2 ⟨⟨Bk', G', vs', vl', rfl, hB'⟩, hb2⟩
    have hb12 := below_trans hb1 hb2
    obtain ⟨d1, f1⟩ := HDC.out w2 hb12
    have HDD := Lib.hid (DeskDone.swap HD.out hBw hb12 hB')
    have HIT2 := Lib.hid (itoa_nat (s'.2.length : Nat) (by omega) (by omega) (w2.setCell ⟨D, 0, none⟩ (.pointer (some ⟨Bk', 0, none⟩))) (HG.out.call (HDD.out.2.below HD.out)).1.here)
    have hb3 : Below B w (w2.setCell ⟨D, 0, none⟩ (.pointer (some ⟨Bk', 0, none⟩))) := (HDD.out.2.below HD.out)
    clear hB'
    go_wp2_with fail
    go_at_call 64
    refine (HIT2.out).mono ?_
    rintro e w4 ⟨rfl, hb4⟩
    rw [Int.toNat_natCast]
    generalize ba (Lib.decDigits s'.2.length) = z at *
    go_wp2_with fail
    go_ret2
    rw [HR.out]
    exact ⟨rfl, DeskDone.later HDD.out hb4⟩
end Go.Proofs.YtokneabcgmjhdaaGreatDoor
