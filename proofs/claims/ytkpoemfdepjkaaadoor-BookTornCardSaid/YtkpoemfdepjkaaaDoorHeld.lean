/- A drawn region under a condition on the world: many operations taken first, at once. No function of the program. -/
import Derived.Test.YtkpoemfdepjkaaaDoorBase
import Derived.Deep.RegionHeld3
namespace Go.Proofs.YtkpoemfdepjkaaaDoor
open Go.RowKit
set_option linter.unusedVariables false
set_option linter.unusedSimpArgs false

section
variable {P : Program} {ops : Array Oper} {Q : Exit → Act → World → Prop} {md : Region.Mode} {S : World → Prop}
/-- the operations may be taken in this order -/
def okTakes (md : Region.Mode) (ops : Array Oper) : List Nat → Array Bool → Bool
  | [], _ => true
  | i :: r, l => Region.free md ops l i && ((Region.ready md ops l).contains i && okTakes md ops r (l.setIfInBounds i true))
def afterTakes : List Nat → Array Bool → Array Bool
  | [], l => l
  | i :: r, l => afterTakes r (l.setIfInBounds i true)
def YAll (P : Program) (ops : Array Oper) (S : World → Prop) : List Nat → List (Option Tmp × Value) → Act → Prop
  | i :: r, (d, v) :: vs, a => (∃ o, ops[i]? = some o ∧ o.dst = d ∧ YieldsIf P ops S o v a) ∧ YAll P ops S r vs (a.put d v)
  | _, _, _ => True
def putAll : List (Option Tmp × Value) → Act → Act
  | [], a => a
  | (d, v) :: r, a => putAll r (a.put d v)
theorem wpAnyH_takes (hs : Region.noSelect ops = true) (hQ : ∀ (d : Option Tmp) (v : Value) c a w, Q (.panic c) (a.put d v) w → Q (.panic c) a w) :
    ∀ (is : List Nat) (vs : List (Option Tmp × Value)) (fuel : Nat) (listed : Array Bool) (a : Act) (w : World), vs.length = is.length → okTakes md ops is listed = true → YAll P ops S is vs a → S w →
      wpAnyH P md ops Q S fuel (afterTakes is listed) (putAll vs a) w → wpAnyH P md ops Q S (fuel + is.length) listed a w
  | [], [], fuel, listed, a, w, _, _, _, _, h => h
  | [], _ :: _, _, _, _, _, hl, _, _, _, _ => by simp at hl
  | _ :: _, [], _, _, _, _, hl, _, _, _, _ => by simp at hl
  | i :: r, (d, v) :: vs, fuel, listed, a, w, hl, hok, hy, hS, h => by
    simp only [okTakes, Bool.and_eq_true] at hok
    obtain ⟨⟨o, ho, hd, hyi⟩, hyr⟩ := hy
    subst hd
    exact wpAnyH_take ho hs hok.1 hok.2.1 (fun c a w => hQ o.dst v c a w) hyi hS (wpAnyH_takes hs hQ r vs fuel _ _ w (by simpa using hl) hok.2.2 hyr hS h)
end
/-- a region's operations, by its number -/
def regOps (k : Nat) : Code → Option (Array Oper)
  | .region id ops _ => if id == k then some ops else none
  | .seq a b => match regOps k a with
    | some c => some c
    | none => regOps k b
  | .block _ c => regOps k c
  | .scope c => regOps k c
  | .loop c => regOps k c
  | .cond _ a b => match regOps k a with
    | some c => some c
    | none => regOps k b
  | _ => none
end Go.Proofs.YtkpoemfdepjkaaaDoor
