/- A region that draws its order, within a round of a loop over a function. -/
import Derived.Sort.QuietIn
import Derived.RangeFuncCalls
import Derived.Test.YtdpdopgngpamnaaMem
namespace Go.Proofs.Ytdpdopgngpamnaa
open Go.RowKit
set_option linter.unusedVariables false
set_option linter.unusedSimpArgs false

def noDefer (ops : Array Oper) : Bool := ops.toList.all fun o => match o.op with | .defer _ => false | _ => true
theorem noDefer_spec {ops : Array Oper} (h : noDefer ops = true) {i : Nat} {o : Oper} (hi : ops[i]? = some o) (c : Call) : o.op ≠ .defer c := by
  intro e
  have hm : o ∈ ops.toList := by
    have := Array.mem_of_getElem? hi
    exact Array.mem_toList_iff.2 this
  have := List.all_eq_true.1 h o hm
  rw [e] at this
  simp at this

section
variable {F : Fence} {n : Nat} {P : Program} {ops : Array Oper} {md : Region.Mode} {C : World → Prop}

theorem quiet_op {l : Nat} {o : Oper} {a : Act} {K : Act → Prop} {K' : Act → World → Prop} {Q' : Exit → Act → World → Prop} {w : World} (hd : ∀ c, o.op ≠ .defer c) (hw : C w) (h : ∀ a w', C w' → K a → K' a w')
    (ha : o.askedIn (F.inRound l) P a C) (hh : o.quietIn (F.inRound l) n P a C K) : o.wpIn (F.inRound l) n P a w K' Q' := by
  obtain ⟨v, h1, h2⟩ := hh
  have h3 := h1 w hw
  unfold Oper.quietAtIn at h3
  refine ⟨ha w hw, ?_⟩
  rw [Fence.inRound_round, Oper.semAt_some l _ o hd]
  generalize (execOp a.eval o).run P w = r at *
  cases r with
  | halt x w' => exact h3.elim
  | ok x w' =>
    cases x <;> simp only [Oper.quietUponIn] at h3 <;> simp only [Oper.uponIn]
    · obtain ⟨rfl, rfl⟩ := h3
      exact h _ _ hw h2
    · obtain ⟨rfl, rfl⟩ := h3
      exact h _ _ hw h2
    · obtain ⟨rfl, hn, hc⟩ := h3
      exact ⟨hn, hc.mono fun e w'' ⟨he, hw''⟩ => by subst he; exact h _ _ hw'' h2⟩

theorem quiet_any {l : Nat} (hd : noDefer ops = true) {Q : Act → Prop} {Q' : Exit → Act → World → Prop} (hQ : ∀ a w, C w → Q a → Q' .normal a w) : ∀ (fuel : Nat) (listed : Array Bool) (a : Act) (w : World), C w →
    wpAnyQIn (F.inRound l) n P md ops C Q fuel listed a → wpAnyIn (F.inRound l) n P md ops Q' fuel listed a w
  | 0, _, _, _, hw, h => ⟨h.1, hQ _ _ hw h.2⟩
  | fuel + 1, listed, a, w, hw, h => ⟨fun h0 => hQ _ _ hw (h.1 h0), fun i hi => by
      have hh := h.2 i hi
      unfold qOpIn at hh
      unfold wpOpIn
      split
      · rename_i ho; simp only [ho] at hh; exact quiet_any hd hQ fuel _ _ _ hw hh
      · rename_i o ho
        simp only [ho] at hh
        obtain ⟨ha, hh⟩ := hh
        split
        · rename_i hwn
          simp only [hwn, if_true] at hh
          exact quiet_op (fun c => noDefer_spec hd ho c) hw (fun a' w' hw' => quiet_any hd hQ fuel _ a' w' hw') ha hh
        · rename_i hwn
          simp only [hwn] at hh
          exact ⟨ha w hw, quiet_any hd hQ fuel _ _ _ hw hh⟩⟩

/-- one walk of the lexical order serves every order, in a round too -/
theorem wpIn_region_quietR {l : Nat} {id : Nat} {Q : Exit → Act → World → Prop} {a : Act} {w : World} (hd : noDefer ops = true) (hm : P.follows .mixedOrders = true) (hB : Region.lexB .any ops = true) (hC : C { w with drawn := w.drawn + 1 })
    (h : wpQuietIn (F.inRound l) n P ops C (fun a' => ∀ w', C w' → Q .normal a' w') ops.toList a) : (Code.region id ops true).wpIn (F.inRound l) n P Q a w := by
  simp only [Region.lexB, Bool.and_eq_true] at hB
  refine wpIn_region_any hm (quiet_any hd (Q := fun a' => ∀ w', C w' → Q .normal a' w') (fun _ w' hw' h => h w' hw') _ _ _ _ hC ?_)
  have := wpAnyQIn_lex (F := F.inRound l) (n := n) (C := C) (md := .any) hB.1 ops.toList 0 (Array.replicate ops.size false) a (by simp) (by simpa using hB.2) h
  simpa using this
end
end Go.Proofs.Ytdpdopgngpamnaa
