/-
  No cell of these rows narrows 'for every input' (looked for: loops, veiled, ifaces, maps, wideKeys, modest, calm, conditions, laid).
  DERIVED. THE GIVEN ROWS OF THIS SEAT. 3 by the template 'for every input the law returns true; each argument reads behind the call as it read before'; 0 by the template 'total and deterministic' (their statements: YtdpdopgngpamnaaTotals.lean).
  GIVEN WITH THE SEED: the statements are not yours to turn. If you find one false, say at which input.
  Laid BY PROGRAM, IN A SANDBOX (cutbox-rows.mjs): the forced cells as the released guide's own fill.sh prints them over the translation 280465aa9ec4239b… (all of the seat's roots in one cut). By AI agents, Wed Nov 11 2026. No macro, syntax, notation, axiom, sorry.
-/
import Derived.Test.YtdpdopgngpamnaaChecked
import GoSem.Claim
import GoSem.ClaimJoined
import GoSem.ClaimMapViews
import Derived.JoinedTies
import Derived.KernelRfl
namespace Go.Proofs.Ytdpdopgngpamnaa
/- THE CELL 'sum', in the pinned program and in every row, IS THE sha256 OF THE DUMP (.gsa) THAT YtdpdopgngpamnaaProg.lean LOADS. Nothing in Lean hashes anything: it is a label: what it is worth is what the hold of that sum in a sandbox is worth. -/
noncomputable def Try.pinned : Pinned := { name := "ytdpdopgngpamnaa", sum := "280465aa9ec4239b2d7aa4eebfefa70ed7cc7d02000b1df70125e892f44beb81", checked := Try.checked }
namespace Rows
def none {H : Type} : Left H := { results := [], args := [] }

/-- 'rankmerelaw4.PfaffSwap': WHATEVER THE INPUT: true; the input reads as it did. -/
def pfaffSwapSpec : ChangeSpec := { name := "pfaffSwap", fn := fun _ => fun
  | [d1, d2, d3] => { results := [.lit (.bool true)], args := [d1, d2, d3] }
  | _ => none }
def pfaffSwapRow : OpenClaim := { program := "ytdpdopgngpamnaa", sum := "280465aa9ec4239b2d7aa4eebfefa70ed7cc7d02000b1df70125e892f44beb81", func := "rankmere/rankmerelaw4.PfaffSwap", spec := "pfaffSwap", unfollowed := true, recurses := true, apart := false }
def PfaffSwapSaid : Prop := pfaffSwapRow.holds Try.pinned (OpenSpec.ofChange pfaffSwapSpec)

/-- ITS FALSE NEIGHBOUR: 'it returns false'. Refute it at one input. -/
def pfaffSwapWrong : ChangeSpec := { name := "pfaffSwap", fn := fun _ => fun
  | [d1, d2, d3] => { results := [.lit (.bool false)], args := [d1, d2, d3] }
  | _ => none }
def PfaffSwapWrongFalsely : Prop := pfaffSwapRow.holds Try.pinned (OpenSpec.ofChange pfaffSwapWrong)

/-- 'rankmerelaw4.PfaffTimes': WHATEVER THE INPUT: true; the input reads as it did. -/
def pfaffTimesSpec : ChangeSpec := { name := "pfaffTimes", fn := fun _ => fun
  | [d1, d2, d3, d4] => { results := [.lit (.bool true)], args := [d1, d2, d3, d4] }
  | _ => none }
def pfaffTimesRow : OpenClaim := { program := "ytdpdopgngpamnaa", sum := "280465aa9ec4239b2d7aa4eebfefa70ed7cc7d02000b1df70125e892f44beb81", func := "rankmere/rankmerelaw4.PfaffTimes", spec := "pfaffTimes", unfollowed := true, recurses := true, apart := false }
def PfaffTimesSaid : Prop := pfaffTimesRow.holds Try.pinned (OpenSpec.ofChange pfaffTimesSpec)

/-- ITS FALSE NEIGHBOUR: 'it returns false'. Refute it at one input. -/
def pfaffTimesWrong : ChangeSpec := { name := "pfaffTimes", fn := fun _ => fun
  | [d1, d2, d3, d4] => { results := [.lit (.bool false)], args := [d1, d2, d3, d4] }
  | _ => none }
def PfaffTimesWrongFalsely : Prop := pfaffTimesRow.holds Try.pinned (OpenSpec.ofChange pfaffTimesWrong)

/-- 'rankmerelaw4.PfaffSquare': WHATEVER THE INPUT: true; the input reads as it did. -/
def pfaffSquareSpec : ChangeSpec := { name := "pfaffSquare", fn := fun _ => fun
  | [d] => { results := [.lit (.bool true)], args := [d] }
  | _ => none }
def pfaffSquareRow : OpenClaim := { program := "ytdpdopgngpamnaa", sum := "280465aa9ec4239b2d7aa4eebfefa70ed7cc7d02000b1df70125e892f44beb81", func := "rankmere/rankmerelaw4.PfaffSquare", spec := "pfaffSquare", unfollowed := true, recurses := true, apart := false }
def PfaffSquareSaid : Prop := pfaffSquareRow.holds Try.pinned (OpenSpec.ofChange pfaffSquareSpec)

/-- ITS FALSE NEIGHBOUR: 'it returns false'. Refute it at one input. -/
def pfaffSquareWrong : ChangeSpec := { name := "pfaffSquare", fn := fun _ => fun
  | [d] => { results := [.lit (.bool false)], args := [d] }
  | _ => none }
def PfaffSquareWrongFalsely : Prop := pfaffSquareRow.holds Try.pinned (OpenSpec.ofChange pfaffSquareWrong)

/- THE SECOND FORM. 'bulk': how many values and letters a reading holds, each counted each time it is reached (what is shared counts as often as it is met; a slice's spare places count too). A statement '..UptoSaid' is the law's where the arguments, and the package variables that the reading takes, are together of bulk at most 1048576: NARROWER than '..Said'. Prove '..Said' where nothing that the law and all that it calls make is longer than what came in: it says more and counts as full. Else prove '..UptoSaid'. A law counts once. -/
mutual
def uptoBulk {H : Type} : DataW H → Nat
  | .lit (.string bytes) => bytes.length + 1
  | .lit _ => 1
  | .nil => 1
  | .ptr d => uptoBulk d + 1
  | .slice elems spare => uptoBulkAll elems + uptoBulkAll spare + 1
  | .agg parts => uptoBulkAll parts + 1
  | .iface _ d => uptoBulk d + 1
  | .map entries => uptoBulkEntries entries + 1
  | .held _ => 1
def uptoBulkAll {H : Type} : List (DataW H) → Nat
  | [] => 0
  | d :: r => uptoBulk d + uptoBulkAll r
def uptoBulkEntries {H : Type} : List (Lit × DataW H) → Nat
  | [] => 0
  | x :: r => uptoBulkEntry x + uptoBulkEntries r
def uptoBulkEntry {H : Type} : Lit × DataW H → Nat
  | (.string bytes, d) => bytes.length + uptoBulk d + 1
  | (_, d) => uptoBulk d + 1
 end
def uptoSmall : (H : Type) → List (DataW H) → Bool := fun _ ds => decide (uptoBulkAll ds ≤ 1048576)
def OpenSpec.upto (s : _root_.Go.ChangeSpec) : _root_.Go.OpenSpec := { _root_.Go.OpenSpec.ofChange s with cond := some uptoSmall }

/-- 'rankmerelaw4.PfaffSwap', WHERE WHAT IT READS IS OF BULK AT MOST 1048576: true; the input reads as it did. -/
def pfaffSwapUptoRow : OpenClaim := { program := "ytdpdopgngpamnaa", sum := "280465aa9ec4239b2d7aa4eebfefa70ed7cc7d02000b1df70125e892f44beb81", func := "rankmere/rankmerelaw4.PfaffSwap", spec := "pfaffSwap", unfollowed := true, recurses := true, apart := false, narrowed := true }
def PfaffSwapUptoSaid : Prop := pfaffSwapUptoRow.holds Try.pinned (OpenSpec.upto pfaffSwapSpec)

/-- 'rankmerelaw4.PfaffTimes', WHERE WHAT IT READS IS OF BULK AT MOST 1048576: true; the input reads as it did. -/
def pfaffTimesUptoRow : OpenClaim := { program := "ytdpdopgngpamnaa", sum := "280465aa9ec4239b2d7aa4eebfefa70ed7cc7d02000b1df70125e892f44beb81", func := "rankmere/rankmerelaw4.PfaffTimes", spec := "pfaffTimes", unfollowed := true, recurses := true, apart := false, narrowed := true }
def PfaffTimesUptoSaid : Prop := pfaffTimesUptoRow.holds Try.pinned (OpenSpec.upto pfaffTimesSpec)

/-- 'rankmerelaw4.PfaffSquare', WHERE WHAT IT READS IS OF BULK AT MOST 1048576: true; the input reads as it did. -/
def pfaffSquareUptoRow : OpenClaim := { program := "ytdpdopgngpamnaa", sum := "280465aa9ec4239b2d7aa4eebfefa70ed7cc7d02000b1df70125e892f44beb81", func := "rankmere/rankmerelaw4.PfaffSquare", spec := "pfaffSquare", unfollowed := true, recurses := true, apart := false, narrowed := true }
def PfaffSquareUptoSaid : Prop := pfaffSquareUptoRow.holds Try.pinned (OpenSpec.upto pfaffSquareSpec)

end Rows
end Go.Proofs.Ytdpdopgngpamnaa
