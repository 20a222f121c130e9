/- Contract of desk's Run: any session's answers. -/
import Derived.Test.YtokneabcgmjhdaaGreatDoorDeskLine
import Derived.Test.YtokneabcgmjhdaaGreatDoorRefCut
import Derived.Shelf.Strings.BuilderK
namespace Go.Proofs.YtokneabcgmjhdaaGreatDoor
open Go.RowKit
set_option linter.unusedVariables false
set_option linter.unusedSimpArgs false

/-- the text without its last line feed, cut -/
theorem cut_trim {l : List UInt8} (hne : l ≠ []) : cutL 10 (Lib.trimSuffix l [10]) = slines l := by
  obtain ⟨q, b, rfl⟩ : ∃ q b, l = q ++ [b] := ⟨l.dropLast, l.getLast hne, (List.dropLast_concat_getLast hne).symm⟩
  unfold slines
  by_cases hb : b = 10
  · subst hb
    have h1 : Lib.trimSuffix (q ++ [10]) [10] = q := by
      unfold Lib.trimSuffix
      rw [if_pos (by simp [Lib.hasSuffix])]
      simp
    rw [h1, cutL_snoc, if_pos rfl, if_pos (by simp), List.dropLast_concat]
  · have h1 : Lib.trimSuffix (q ++ [b]) [10] = q ++ [b] := by
      unfold Lib.trimSuffix
      rw [if_neg (by simp [Lib.hasSuffix]; exact fun e => hb e.symm)]
    rw [h1, cutL_snoc, if_neg hb, if_neg (by simp)]
theorem dd_small {u : Nat} (h : u < 10000) : (Lib.decDigits u).length ≤ 4 := nDig_le h
theorem nameL_len (e : Int) : (nameL e).length ≤ 9 := by
  unfold nameL
  repeat' split
  all_goals decide
theorem saidL_len (e : Int) : (saidL e).length ≤ 9 := by
  unfold saidL
  split
  · decide
  · exact nameL_len e
theorem cmdE_len {s : BS} (h : DeskOk s) (w : List UInt8) (ns : List Nat) : (cmdE w ns s).1.length ≤ 10 := by
  have hb : kBad.length ≤ 10 := by decide
  match ns with
  | [] =>
    rw [cmdE_0]
    split
    · have : (G_det s.1).toNat < 10000 := by unfold G_det; omega
      exact Nat.le_trans (nDig_le this) (by omega)
    · exact hb
  | [n] =>
    rw [cmdE_1]
    split
    · obtain ⟨s', h1, h2, -⟩ := h.crash n
      have h3 := h2.ok.len
      simp only [h1]
      have h4 := nDig_le (u := s'.2.length) (by omega)
      have h5 : kFound.length = 6 := rfl
      rw [List.length_append]
      omega
    · exact hb
  | [i, j] =>
    rw [cmdE_2]
    split
    · split
      · exact Nat.le_trans (nameL_len 1) (by omega)
      · rename_i hij
        have := h.ok.ent i j (by omega) (by omega)
        exact Nat.le_trans (nDig_le (u := (fn s.1 i j).toNat) (by omega)) (by omega)
    · exact hb
  | [i, j, n] =>
    rw [cmdE_3]
    split
    · exact Nat.le_trans (saidL_len _) (by omega)
    · split
      · exact Nat.le_trans (saidL_len _) (by omega)
      · exact hb
  | _ :: _ :: _ :: _ :: _ =>
    rw [cmdE_4]
    exact hb
theorem answerE_len {s : BS} (h : DeskOk s) (l : List UInt8) : (answerE l s).1.length ≤ 10 := by
  have hb : kBad.length ≤ 10 := by decide
  unfold answerE
  split
  · exact hb
  · split
    · exact hb
    · exact cmdE_len h _ _
theorem Handle.later {w W : World} (h : Handle w) (hb : Below w.heap.size w W) : Handle W := h.call hb
theorem DBuilder_WriteString (B b : Nat) (bs : List Value) (s : ByteArray) (w : World) (h : Lib.IsBuilderF 37 5 B b bs w) (hlen : bs.length + s.size ≤ 140737488355328) (hBw : B ≤ w.heap.size) :
    Calls Tryz.prog 18 #[.pointer (some ⟨b, 0, none⟩), .string s] w fun e w' => e = .returned (.tuple #[.int .i64 s.size, .nilIface]) ∧ (Lib.BuilderAtF 37 5 B b (.pointer (some ⟨b, 0, none⟩)) (bs ++ Lib.strCells s) w' ∧ Below B w w' ∧ Lib.OthersKept 5 (some b) w w') :=
  Any.Builder_WriteString_k Tryz.lays166 Tryz.Builder_Extra_166 B b bs s w h hlen hBw
theorem DBuilder_String (B b : Nat) (l : List UInt8) (w : World) (h : Lib.IsBuilderF 37 5 B b (Lib.byteCells l) w) (h0 : l ≠ []) :
    Calls Tryz.prog 20 #[.pointer (some ⟨b, 0, none⟩)] w fun e w' => e = .returned (.string ⟨l.toArray⟩) ∧ (Lib.IsBuilderF 37 5 B b (Lib.byteCells l) w' ∧ Below B w w') :=
  Any.Builder_String_f Tryz.lays169 Tryz.Builder_Extra_169 B b l w h h0
theorem builder_box {B b : Nat} {bs : List Value} {w : World} (h : Lib.IsBuilderF 37 5 B b bs w) : B ≤ b ∧ ∃ (c : Array Value) (f : Nat × Nat), w.heap[b]? = some (Obj.cells c 37 f) := by
  rcases h with ⟨h1, v, h2, -⟩ | ⟨h1, v, h2, -⟩
  · exact ⟨h1, _, _, h2⟩
  · exact ⟨h1, _, _, h2⟩
/-- another kind of block stands beside the builder's work -/
theorem others_tag {w w' : World} {b k : Nat} {cs : Array Value} {T : TypeId} {f : Nat × Nat} (hk : Lib.OthersKept 5 (some b) w w') (hb : ∃ (c : Array Value) (f : Nat × Nat), w.heap[b]? = some (Obj.cells c 37 f)) (h : w.heap[k]? = some (.cells cs T f)) (h1 : T ≠ 5) (h2 : T ≠ 37) : w'.heap[k]? = some (.cells cs T f) := by
  obtain ⟨cb, fb, hbx⟩ := hb
  refine hk k _ h (fun e => ?_) (fun c' f' e => ?_)
  · cases e
    rw [hbx] at h
    simp only [Option.some.injEq, Obj.cells.injEq] at h
    exact h2 h.2.1.symm
  · simp only [Obj.cells.injEq] at e
    exact h1 e.2.1
/-- the pieces stand beside a desk's work -/
theorem pieces_kept {w w' : World} {B D Bk G P : Nat} {vs : List Value} {vl : Value} {s : BS} {cs : Array Value} {f : Nat × Nat} (h : DKept w w' D Bk vs vl) (hd : DeskAt w B D Bk G vs vl s) (hk : w.heap[P]? = some (.cells cs 9 f)) (hvl : vl.ownBlock ≠ some P) : w'.heap[P]? = some (.cells cs 9 f) := by
  have key : ∀ (x : Nat) (c : Array Value) (t : TypeId) (fr : Nat × Nat), w.heap[x]? = some (.cells c t fr) → 9 ≠ t → P ≠ x := fun x c t fr hx hT e => by
    rw [← e, hk] at hx
    simp only [Option.some.injEq, Obj.cells.injEq] at hx
    exact hT hx.2.1
  rw [h.block P (Array.getElem?_eq_some_iff.1 hk).1 (key _ _ _ _ hd.box (by decide)) (key _ _ _ _ hd.book.box (by decide)) hvl (fun i hi => own_tag (hd.book.own.2.2.1 i (by rw [hd.book.sq.1]; exact hi)) hk (by decide))]
  exact hk

set_option maxRecDepth 100000 in
set_option maxHeartbeats 4000000 in
theorem Run_any (t : ByteArray) (w : World) (hG : Glob w.heap.size w) (hH : Handle w) :
    Calls Tryz.prog 8 #[.string t] w fun e w' => e = .returned (.string (ba (sessE t.data.toList))) ∧ Below w.heap.size w w' := by
  by_cases hl : 3000 < t.size
  · have hE : sessE t.data.toList = kLong := if_pos (by rw [size_list]; exact hl)
    rw [hE]
    have hli : (3000 : Int) < t.size := by omega
    clear hE hG hH
    go_enter Tryz.func8, Tryz.ntmps8
    go_wp2_with fail
    go_ret
    exact ⟨rfl, Below.refl _ _⟩
  · have hli : ¬ (3000 : Int) < t.size := by omega
    have hE : sessE t.data.toList = (sessR (slines t.data.toList) (zeros4, [])).1 := if_neg (by rw [size_list]; exact hl)
    by_cases h0 : t.data.toList = []
    · rw [hE, h0]
      have hA : t.toList.isEmpty = true := by rw [toList_data', h0]; rfl
      have hR : ba (sessR (slines []) (zeros4, [])).1 = ⟨#[]⟩ := rfl
      rw [hR]
      clear h0 hE hG hH hR
      go_enter Tryz.func8, Tryz.ntmps8
      go_wp2_with fail
      go_ret
      exact ⟨rfl, Below.refl _ _⟩
    · have hA : t.toList.isEmpty = false := by
        rw [toList_data']
        cases hh : t.data.toList with
        | nil => exact absurd hh h0
        | cons a b => rfl
      have hct := cut_trim h0
      obtain ⟨ps, hps⟩ : ∃ ps, ps = slines t.data.toList := ⟨_, rfl⟩
      rw [← hps] at hct hE
      have hn0 : 1 ≤ ps.length := by rw [← hct]; exact List.length_pos_iff.2 (cutL_ne _ _)
      have htl : (Lib.trimSuffix t.data.toList [10]).length ≤ 3000 := by
        unfold Lib.trimSuffix
        split
        · rw [List.length_take, size_list]; omega
        · rw [size_list]; omega
      have hn3 : ps.length ≤ 3001 := by
        rw [← hct, cutL_len]
        have := List.count_le_length (a := (10 : UInt8)) (l := Lib.trimSuffix t.data.toList [10])
        omega
      have HPZ := Lib.hid (fun j => (show (ba (ps.getD j [])).size ≤ 3000 from by rw [← hct]; have := piece_size (c := 10) (l := Lib.trimSuffix t.data.toList [10]) j; omega))
      have HTS := Lib.hid (fun W => Tryz.strings_TrimSuffix t ⟨#[10]⟩ W (by omega))
      have HSP := Lib.hid (fun W (h : Below w.heap.size w W) => Split_any ⟨(Lib.trimSuffix t.data.toList [10]).toArray⟩ 10 w.heap.size W (hG.call h) (by show (ba _).size ≤ _; rw [ba_size]; omega))
      rw [show (⟨(Lib.trimSuffix t.data.toList [10]).toArray⟩ : ByteArray).data.toList = Lib.trimSuffix t.data.toList [10] from ba_toList _, hct] at HSP
      obtain ⟨n, hn⟩ : ∃ n, n = ps.length := ⟨_, rfl⟩
      rw [← hn] at hn0 hn3
      have HN := Lib.hid hn
      have HG := Lib.hid hG
      have HH := Lib.hid hH
      rw [hE]
      generalize hts : (⟨(Lib.trimSuffix t.data.toList [10]).toArray⟩ : ByteArray) = ts at *
      have HT0 := HTS
      clear h0 hE hG hH hps hct htl hn hts HTS
      go_enter Tryz.func8, Tryz.ntmps8
      go_wp2_with fail
      go_at_call 15
      refine (New_any _).mono ?_
      rintro e w1 ⟨Bk, G, vs, rfl, hbk, hB, hb1⟩
      go_upto_region 7 with (fail)
      have hb2 : Below w.heap.size w ((w1.alloc (.cells #[.pointer (some ⟨Bk, 0, none⟩)] 33)).alloc (.cells #[.pointer none, .slice none 0 0] 37)) := (hb1.alloc hb1.size _).alloc (by have := hb1.size; simp; omega) _
      have hal : Below w1.heap.size w1 ((w1.alloc (.cells #[.pointer (some ⟨Bk, 0, none⟩)] 33)).alloc (.cells #[.pointer none, .slice none 0 0] 37)) := ((Below.refl _ _).alloc (Nat.le_refl _) _).alloc (by simp) _
      have hbx : ((w1.alloc (.cells #[.pointer (some ⟨Bk, 0, none⟩)] 33)).alloc (.cells #[.pointer none, .slice none 0 0] 37)).heap[w1.heap.size]? = some (.cells #[.pointer (some ⟨Bk, 0, none⟩)] 33 (0, 0)) := by
        rw [heap_alloc_old _ _ (by simp)]; exact heap_alloc_new _ _
      have hbu : ((w1.alloc (.cells #[.pointer (some ⟨Bk, 0, none⟩)] 33)).alloc (.cells #[.pointer none, .slice none 0 0] 37)).heap[w1.heap.size + 1]? = some (.cells #[.pointer none, .slice none 0 0] 37 (0, 0)) := heap_alloc2_new _ _ _
      have hD : DeskAt ((w1.alloc (.cells #[.pointer (some ⟨Bk, 0, none⟩)] 33)).alloc (.cells #[.pointer none, .slice none 0 0] 37)) w.heap.size w1.heap.size Bk G vs (.slice none 0 0) (zeros4, []) := ⟨hb1.size, hbx, hB.call hal⟩
      have hI : Lib.IsBuilderF 37 5 w.heap.size (w1.heap.size + 1) (Lib.byteCells []) ((w1.alloc (.cells #[.pointer (some ⟨Bk, 0, none⟩)] 33)).alloc (.cells #[.pointer none, .slice none 0 0] 37)) :=
        Or.inl ⟨by have := hb1.size; omega, _, hbu, World.ownsRowF_nil _ _ _ _, by simp [Value.ownBlock]⟩
      obtain ⟨D, hDe⟩ : ∃ D, D = w1.heap.size := ⟨_, rfl⟩
      rw [← hDe] at hD hI ⊢
      clear hbx hbu hal hB hb1 hbk
      generalize (w1.alloc (.cells #[.pointer (some ⟨Bk, 0, none⟩)] 33)).alloc (.cells #[.pointer none, .slice none 0 0] 37) = W2 at *
      clear hDe w1
      have HD := Lib.hid hD
      have HI := Lib.hid hI
      clear hD hI
      go_wp2_with fail
      go_at_call 17
      refine (HT0.out _).mono ?_
      rintro e w3 ⟨rfl, rfl⟩
      go_wp2_with fail
      go_at_call 16
      refine (HSP.out _ hb2).mono ?_
      rintro e w4 ⟨rfl, hw4⟩
      have hb34 : Below w3.heap.size w3 w4 := by rw [hw4]; exact (Below.refl _ _).alloc (Nat.le_refl _) _
      have hP : w4.heap[w3.heap.size]? = some (piecesO ps) := by rw [hw4]; exact heap_alloc_new _ _
      have hb4 := below_trans hb2 hb34
      have HD4 := Lib.hid (HD.out.call hb34)
      have HI4 := Lib.hid (builder_below HI.out hb34)
      obtain ⟨P, hPe⟩ : ∃ P, P = w3.heap.size := ⟨_, rfl⟩
      rw [← HN.out, ← hPe]
      rw [← hPe] at hP
      have HP := Lib.hid hP
      clear hw4 hP hPe HD HI hb34 hb2
      go_wp2_with fail
      go_loopg [19] (n + 1) (fun g i wr => ∃ k : Nat, k ≤ n ∧ n - k < g ∧ i = .int .i64 k ∧ (∃ st Bk G vs vl acc, DeskAt wr w.heap.size D Bk G vs vl st ∧ DeskOk st ∧ (∀ b, vl.ownBlock = some b → P < b) ∧ (sessR ps (zeros4, [])).1 = acc ++ (sessR (ps.drop k) st).1 ∧ Lib.IsBuilderF 37 5 w.heap.size (D + 1) (Lib.byteCells acc) wr ∧ acc.length ≤ 11 * k) ∧ wr.heap[P]? = some (piecesO ps) ∧ Below w.heap.size w wr)
      case atStart => exact ⟨0, by omega, by omega, rfl, ⟨(zeros4, []), Bk, G, vs, _, [], HD4.out, DeskOk.zero, fun b hb => (by simp [Value.ownBlock] at hb), rfl, HI4.out, by simp⟩, HP.out, hb4⟩
      case round =>
        clear HD4 HI4 HP hb4
        obtain ⟨k, hk, hg, rfl, ⟨st, Bk, G, vs, vl, acc, hd, hok, hvl, hrun, hI, hacc⟩, hP, hbel⟩ := hrel
        have hlP := (Array.getElem?_eq_some_iff.1 hP).1
        by_cases hlt : k < n
        · have hki : (k : Int) < n := by omega
          have hk0 : (0 : Int) ≤ k := by omega
          have hkp : k < ps.length := by rw [← HN.out]; exact hlt
          have q0 := pieces_at hP hkp
          have hL := DLine_any (ba (ps.getD k [])) wr w.heap.size D Bk G vs vl st hd hok hbel.size (HG.out.call hbel) (fun W h => HH.out.call (hbel.trans h)) (HPZ.out k)
          rw [ba_toList] at hL
          rw [drop_cons' _ k [] hkp, sessR] at hrun
          have hal := answerE_len hok (ps.getD k [])
          have hok2 := hok.answer (ps.getD k [])
          generalize ps.getD k [] = pc at q0 hL hrun hal hok2
          obtain ⟨ans, hans⟩ : ∃ a, a = (answerE pc st).1 := ⟨_, rfl⟩
          obtain ⟨st2, hst2⟩ : ∃ a, a = (answerE pc st).2 := ⟨_, rfl⟩
          rw [← hans, ← hst2] at hL hrun
          rw [← hans] at hal
          rw [← hst2] at hok2
          have hbs : (ba ans).size ≤ 10 := by rw [ba_size]; exact hal
          have HD := Lib.hid hd
          have HI := Lib.hid hI
          have HPK := Lib.hid hP
          have HV := Lib.hid hvl
          have HRUN := Lib.hid hrun
          have HOK2 := Lib.hid hok2
          clear hd hI hP hvl hrun hok hok2 hans hst2 hkp
          go_wp2_with fail
          go_at_call 19
          refine hL.mono ?_
          rintro e w5 ⟨rfl, hDD⟩
          have hI5 := builder_kept hDD.2 HD.out HI.out
          have hP5 := pieces_kept hDD.2 HD.out HPK.out (fun e => by have := HV.out _ e; omega)
          have hb5 := hbel.trans (hDD.2.below HD.out)
          have hs5 := hDD.2.size
          obtain ⟨⟨Bk2, G2, vs2, vl2, hd5, hvl5⟩, -⟩ := hDD
          have HV5 := Lib.hid (fun b (hb : vl2.ownBlock = some b) => (show P < b from by
            rcases hvl5 b hb with h | h
            · exact HV.out b h
            · omega))
          have HWS := Lib.hid (DBuilder_WriteString w.heap.size (D + 1) (Lib.byteCells acc) (ba ans ++ ⟨#[10]⟩) w5 hI5 (by rw [Lib.byteCells_length, ByteArray.size_append]; show _ + (_ + 1) ≤ _; omega) hb5.size)
          have HBX := Lib.hid (builder_box hI5).2
          have HD5 := Lib.hid hd5
          have HP5 := Lib.hid hP5
          clear hd5 hP5 hI5 hvl5 hL
          go_wp2_with fail
          go_at_call 18
          refine HWS.out.mono ?_
          rintro e w6 ⟨rfl, hI6, hb56, hoth⟩
          have HD6 := Lib.hid (HD5.out.beside hoth HBX.out)
          have HP6 := Lib.hid (others_tag hoth HBX.out HP5.out (by decide) (by decide))
          have HI6 := Lib.hid (show Lib.IsBuilderF 37 5 w.heap.size (D + 1) (Lib.byteCells (acc ++ (ans ++ [10]))) w6 from by
            rw [str_cells, ba_toList, ← Lib.byteCells_append] at hI6
            exact Or.inr hI6)
          have hb6 := hb5.trans hb56
          clear hI6 hoth
          go_wp2_with fail
          go_roundg (n - k)
          case measure => omega
          case rel => exact ⟨k + 1, by omega, by omega, by go_num, ⟨st2, Bk2, G2, vs2, vl2, acc ++ (ans ++ [10]), HD6.out, HOK2.out, HV5.out, by rw [HRUN.out]; simp, HI6.out, by simp only [List.length_append, List.length_singleton]; omega⟩, HP6.out, hb6⟩
        · obtain rfl : n = k := by omega
          rw [List.drop_eq_nil_of_le (by rw [HN.out]; exact Nat.le_refl _), sessR, List.append_nil] at hrun
          have hcount := sessR_count ps (zeros4, [])
          rw [hrun, ← HN.out] at hcount
          have hne : acc ≠ [] := fun e => by rw [e] at hcount; simp at hcount; omega
          have HST := Lib.hid (DBuilder_String w.heap.size (D + 1) acc wr hI hne)
          have HRUN := Lib.hid hrun
          clear hd hok hvl hrun hI hP hcount hne
          go_wp2_with fail
          go_at_call 20
          refine HST.out.mono ?_
          rintro e w5 ⟨rfl, -, hb5⟩
          go_wp2_with fail
          go_ret
          rw [HRUN.out]
          exact ⟨rfl, hbel.trans hb5⟩
end Go.Proofs.YtokneabcgmjhdaaGreatDoor
