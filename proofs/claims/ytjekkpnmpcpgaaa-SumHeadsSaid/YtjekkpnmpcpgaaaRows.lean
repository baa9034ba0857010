/-
  No cell of these rows narrows 'for every input' (looked for: loops, veiled, ifaces, maps, wideKeys, modest, calm, conditions, laid).
  DERIVED. THE GIVEN ROWS OF THIS SEAT. 9 by the template 'for every input the law returns true; each argument reads behind the call as it read before'; 0 by the template 'total and deterministic' (their statements: YtjekkpnmpcpgaaaTotals.lean).
  GIVEN WITH THE SEED: the statements are not yours to turn. If you find one false, say at which input.
  Laid BY PROGRAM, IN A SANDBOX (cutbox-rows.mjs): the forced cells as the released guide's own fill.sh prints them over the translation f9a51ad2123bdad2… (all of the seat's roots in one cut). By AI agents, Wed Nov 11 2026. No macro, syntax, notation, axiom, sorry.
-/
import Derived.Test.YtjekkpnmpcpgaaaChecked
import GoSem.Claim
import GoSem.ClaimJoined
import GoSem.ClaimMapViews
import Derived.JoinedTies
import Derived.KernelRfl
namespace Go.Proofs.Ytjekkpnmpcpgaaa
/- THE CELL 'sum', in the pinned program and in every row, IS THE sha256 OF THE DUMP (.gsa) THAT YtjekkpnmpcpgaaaProg.lean LOADS. Nothing in Lean hashes anything: it is a label: what it is worth is what the hold of that sum in a sandbox is worth. -/
noncomputable def Try.pinned : Pinned := { name := "ytjekkpnmpcpgaaa", sum := "f9a51ad2123bdad23a165e24d82622e426e6e1a94c044df2a9d23e0d3484f238", checked := Try.checked }
namespace Rows
def none {H : Type} : Left H := { results := [], args := [] }

/-- 'interpreterlaw02.SumOf': WHATEVER THE INPUT: true; the input reads as it did. -/
def sumOfSpec : ChangeSpec := { name := "sumOf", fn := fun _ => fun
  | [d] => { results := [.lit (.bool true)], args := [d] }
  | _ => none }
def sumOfRow : OpenClaim := { program := "ytjekkpnmpcpgaaa", sum := "f9a51ad2123bdad23a165e24d82622e426e6e1a94c044df2a9d23e0d3484f238", func := "interpreter/interpreterlaw02.SumOf", spec := "sumOf", apart := false }
def SumOfSaid : Prop := sumOfRow.holds Try.pinned (OpenSpec.ofChange sumOfSpec)

/-- ITS FALSE NEIGHBOUR: 'it returns false'. Refute it at one input. -/
def sumOfWrong : ChangeSpec := { name := "sumOf", fn := fun _ => fun
  | [d] => { results := [.lit (.bool false)], args := [d] }
  | _ => none }
def SumOfWrongFalsely : Prop := sumOfRow.holds Try.pinned (OpenSpec.ofChange sumOfWrong)

/-- 'interpreterlaw02.SumPieces': WHATEVER THE INPUT: true; the input reads as it did. -/
def sumPiecesSpec : ChangeSpec := { name := "sumPieces", fn := fun _ => fun
  | [d1, d2, d3, d4, d5] => { results := [.lit (.bool true)], args := [d1, d2, d3, d4, d5] }
  | _ => none }
def sumPiecesRow : OpenClaim := { program := "ytjekkpnmpcpgaaa", sum := "f9a51ad2123bdad23a165e24d82622e426e6e1a94c044df2a9d23e0d3484f238", func := "interpreter/interpreterlaw02.SumPieces", spec := "sumPieces", apart := false }
def SumPiecesSaid : Prop := sumPiecesRow.holds Try.pinned (OpenSpec.ofChange sumPiecesSpec)

/-- ITS FALSE NEIGHBOUR: 'it returns false'. Refute it at one input. -/
def sumPiecesWrong : ChangeSpec := { name := "sumPieces", fn := fun _ => fun
  | [d1, d2, d3, d4, d5] => { results := [.lit (.bool false)], args := [d1, d2, d3, d4, d5] }
  | _ => none }
def SumPiecesWrongFalsely : Prop := sumPiecesRow.holds Try.pinned (OpenSpec.ofChange sumPiecesWrong)

/-- 'interpreterlaw02.SumTwice': WHATEVER THE INPUT: true; the input reads as it did. -/
def sumTwiceSpec : ChangeSpec := { name := "sumTwice", fn := fun _ => fun
  | [d1, d2] => { results := [.lit (.bool true)], args := [d1, d2] }
  | _ => none }
def sumTwiceRow : OpenClaim := { program := "ytjekkpnmpcpgaaa", sum := "f9a51ad2123bdad23a165e24d82622e426e6e1a94c044df2a9d23e0d3484f238", func := "interpreter/interpreterlaw02.SumTwice", spec := "sumTwice", apart := false }
def SumTwiceSaid : Prop := sumTwiceRow.holds Try.pinned (OpenSpec.ofChange sumTwiceSpec)

/-- ITS FALSE NEIGHBOUR: 'it returns false'. Refute it at one input. -/
def sumTwiceWrong : ChangeSpec := { name := "sumTwice", fn := fun _ => fun
  | [d1, d2] => { results := [.lit (.bool false)], args := [d1, d2] }
  | _ => none }
def SumTwiceWrongFalsely : Prop := sumTwiceRow.holds Try.pinned (OpenSpec.ofChange sumTwiceWrong)

/-- 'interpreterlaw02.SumUpdates': WHATEVER THE INPUT: true; the input reads as it did. -/
def sumUpdatesSpec : ChangeSpec := { name := "sumUpdates", fn := fun _ => fun
  | [d1, d2, d3] => { results := [.lit (.bool true)], args := [d1, d2, d3] }
  | _ => none }
def sumUpdatesRow : OpenClaim := { program := "ytjekkpnmpcpgaaa", sum := "f9a51ad2123bdad23a165e24d82622e426e6e1a94c044df2a9d23e0d3484f238", func := "interpreter/interpreterlaw02.SumUpdates", spec := "sumUpdates", apart := false }
def SumUpdatesSaid : Prop := sumUpdatesRow.holds Try.pinned (OpenSpec.ofChange sumUpdatesSpec)

/-- ITS FALSE NEIGHBOUR: 'it returns false'. Refute it at one input. -/
def sumUpdatesWrong : ChangeSpec := { name := "sumUpdates", fn := fun _ => fun
  | [d1, d2, d3] => { results := [.lit (.bool false)], args := [d1, d2, d3] }
  | _ => none }
def SumUpdatesWrongFalsely : Prop := sumUpdatesRow.holds Try.pinned (OpenSpec.ofChange sumUpdatesWrong)

/-- 'interpreterlaw02.SumKeeps': WHATEVER THE INPUT: true; the input reads as it did. -/
def sumKeepsSpec : ChangeSpec := { name := "sumKeeps", fn := fun _ => fun
  | [d1, d2, d3, d4, d5] => { results := [.lit (.bool true)], args := [d1, d2, d3, d4, d5] }
  | _ => none }
def sumKeepsRow : OpenClaim := { program := "ytjekkpnmpcpgaaa", sum := "f9a51ad2123bdad23a165e24d82622e426e6e1a94c044df2a9d23e0d3484f238", func := "interpreter/interpreterlaw02.SumKeeps", spec := "sumKeeps", apart := false }
def SumKeepsSaid : Prop := sumKeepsRow.holds Try.pinned (OpenSpec.ofChange sumKeepsSpec)

/-- ITS FALSE NEIGHBOUR: 'it returns false'. Refute it at one input. -/
def sumKeepsWrong : ChangeSpec := { name := "sumKeeps", fn := fun _ => fun
  | [d1, d2, d3, d4, d5] => { results := [.lit (.bool false)], args := [d1, d2, d3, d4, d5] }
  | _ => none }
def SumKeepsWrongFalsely : Prop := sumKeepsRow.holds Try.pinned (OpenSpec.ofChange sumKeepsWrong)

/-- 'interpreterlaw02.SumBack': WHATEVER THE INPUT: true; the input reads as it did. -/
def sumBackSpec : ChangeSpec := { name := "sumBack", fn := fun _ => fun
  | [d1, d2, d3] => { results := [.lit (.bool true)], args := [d1, d2, d3] }
  | _ => none }
def sumBackRow : OpenClaim := { program := "ytjekkpnmpcpgaaa", sum := "f9a51ad2123bdad23a165e24d82622e426e6e1a94c044df2a9d23e0d3484f238", func := "interpreter/interpreterlaw02.SumBack", spec := "sumBack", apart := false }
def SumBackSaid : Prop := sumBackRow.holds Try.pinned (OpenSpec.ofChange sumBackSpec)

/-- ITS FALSE NEIGHBOUR: 'it returns false'. Refute it at one input. -/
def sumBackWrong : ChangeSpec := { name := "sumBack", fn := fun _ => fun
  | [d1, d2, d3] => { results := [.lit (.bool false)], args := [d1, d2, d3] }
  | _ => none }
def SumBackWrongFalsely : Prop := sumBackRow.holds Try.pinned (OpenSpec.ofChange sumBackWrong)

/-- 'interpreterlaw02.SumChain': WHATEVER THE INPUT: true; the input reads as it did. -/
def sumChainSpec : ChangeSpec := { name := "sumChain", fn := fun _ => fun
  | [d1, d2, d3, d4] => { results := [.lit (.bool true)], args := [d1, d2, d3, d4] }
  | _ => none }
def sumChainRow : OpenClaim := { program := "ytjekkpnmpcpgaaa", sum := "f9a51ad2123bdad23a165e24d82622e426e6e1a94c044df2a9d23e0d3484f238", func := "interpreter/interpreterlaw02.SumChain", spec := "sumChain", apart := false }
def SumChainSaid : Prop := sumChainRow.holds Try.pinned (OpenSpec.ofChange sumChainSpec)

/-- ITS FALSE NEIGHBOUR: 'it returns false'. Refute it at one input. -/
def sumChainWrong : ChangeSpec := { name := "sumChain", fn := fun _ => fun
  | [d1, d2, d3, d4] => { results := [.lit (.bool false)], args := [d1, d2, d3, d4] }
  | _ => none }
def SumChainWrongFalsely : Prop := sumChainRow.holds Try.pinned (OpenSpec.ofChange sumChainWrong)

/-- 'interpreterlaw02.SumHeads': WHATEVER THE INPUT: true; the input reads as it did. -/
def sumHeadsSpec : ChangeSpec := { name := "sumHeads", fn := fun _ => fun
  | [d1, d2, d3, d4, d5, d6] => { results := [.lit (.bool true)], args := [d1, d2, d3, d4, d5, d6] }
  | _ => none }
def sumHeadsRow : OpenClaim := { program := "ytjekkpnmpcpgaaa", sum := "f9a51ad2123bdad23a165e24d82622e426e6e1a94c044df2a9d23e0d3484f238", func := "interpreter/interpreterlaw02.SumHeads", spec := "sumHeads", apart := false }
def SumHeadsSaid : Prop := sumHeadsRow.holds Try.pinned (OpenSpec.ofChange sumHeadsSpec)

/-- ITS FALSE NEIGHBOUR: 'it returns false'. Refute it at one input. -/
def sumHeadsWrong : ChangeSpec := { name := "sumHeads", fn := fun _ => fun
  | [d1, d2, d3, d4, d5, d6] => { results := [.lit (.bool false)], args := [d1, d2, d3, d4, d5, d6] }
  | _ => none }
def SumHeadsWrongFalsely : Prop := sumHeadsRow.holds Try.pinned (OpenSpec.ofChange sumHeadsWrong)

/-- 'interpreterlaw02.SumKnown': WHATEVER THE INPUT: true; the input reads as it did. -/
def sumKnownSpec : ChangeSpec := { name := "sumKnown", fn := fun _ => fun
  | [] => { results := [.lit (.bool true)], args := [] }
  | _ => none }
def sumKnownRow : OpenClaim := { program := "ytjekkpnmpcpgaaa", sum := "f9a51ad2123bdad23a165e24d82622e426e6e1a94c044df2a9d23e0d3484f238", func := "interpreter/interpreterlaw02.SumKnown", spec := "sumKnown", apart := false }
def SumKnownSaid : Prop := sumKnownRow.holds Try.pinned (OpenSpec.ofChange sumKnownSpec)

/-- ITS FALSE NEIGHBOUR: 'it returns false'. Refute it at one input. -/
def sumKnownWrong : ChangeSpec := { name := "sumKnown", fn := fun _ => fun
  | [] => { results := [.lit (.bool false)], args := [] }
  | _ => none }
def SumKnownWrongFalsely : Prop := sumKnownRow.holds Try.pinned (OpenSpec.ofChange sumKnownWrong)

/- THE SECOND FORM. 'bulk': how many values and letters a reading holds, each counted each time it is reached (what is shared counts as often as it is met; a slice's spare places count too). A statement '..UptoSaid' is the law's where the arguments, and the package variables that the reading takes, are together of bulk at most 1048576: NARROWER than '..Said'. Prove '..Said' where nothing that the law and all that it calls make is longer than what came in: it says more and counts as full. Else prove '..UptoSaid'. A law counts once. -/
mutual
def uptoBulk {H : Type} : DataW H → Nat
  | .lit (.string bytes) => bytes.length + 1
  | .lit _ => 1
  | .nil => 1
  | .ptr d => uptoBulk d + 1
  | .slice elems spare => uptoBulkAll elems + uptoBulkAll spare + 1
  | .agg parts => uptoBulkAll parts + 1
  | .iface _ d => uptoBulk d + 1
  | .map entries => uptoBulkEntries entries + 1
  | .held _ => 1
def uptoBulkAll {H : Type} : List (DataW H) → Nat
  | [] => 0
  | d :: r => uptoBulk d + uptoBulkAll r
def uptoBulkEntries {H : Type} : List (Lit × DataW H) → Nat
  | [] => 0
  | x :: r => uptoBulkEntry x + uptoBulkEntries r
def uptoBulkEntry {H : Type} : Lit × DataW H → Nat
  | (.string bytes, d) => bytes.length + uptoBulk d + 1
  | (_, d) => uptoBulk d + 1
 end
def uptoSmall : (H : Type) → List (DataW H) → Bool := fun _ ds => decide (uptoBulkAll ds ≤ 1048576)
def OpenSpec.upto (s : _root_.Go.ChangeSpec) : _root_.Go.OpenSpec := { _root_.Go.OpenSpec.ofChange s with cond := some uptoSmall }

/-- 'interpreterlaw02.SumOf', WHERE WHAT IT READS IS OF BULK AT MOST 1048576: true; the input reads as it did. -/
def sumOfUptoRow : OpenClaim := { program := "ytjekkpnmpcpgaaa", sum := "f9a51ad2123bdad23a165e24d82622e426e6e1a94c044df2a9d23e0d3484f238", func := "interpreter/interpreterlaw02.SumOf", spec := "sumOf", apart := false, narrowed := true }
def SumOfUptoSaid : Prop := sumOfUptoRow.holds Try.pinned (OpenSpec.upto sumOfSpec)

/-- 'interpreterlaw02.SumPieces', WHERE WHAT IT READS IS OF BULK AT MOST 1048576: true; the input reads as it did. -/
def sumPiecesUptoRow : OpenClaim := { program := "ytjekkpnmpcpgaaa", sum := "f9a51ad2123bdad23a165e24d82622e426e6e1a94c044df2a9d23e0d3484f238", func := "interpreter/interpreterlaw02.SumPieces", spec := "sumPieces", apart := false, narrowed := true }
def SumPiecesUptoSaid : Prop := sumPiecesUptoRow.holds Try.pinned (OpenSpec.upto sumPiecesSpec)

/-- 'interpreterlaw02.SumTwice', WHERE WHAT IT READS IS OF BULK AT MOST 1048576: true; the input reads as it did. -/
def sumTwiceUptoRow : OpenClaim := { program := "ytjekkpnmpcpgaaa", sum := "f9a51ad2123bdad23a165e24d82622e426e6e1a94c044df2a9d23e0d3484f238", func := "interpreter/interpreterlaw02.SumTwice", spec := "sumTwice", apart := false, narrowed := true }
def SumTwiceUptoSaid : Prop := sumTwiceUptoRow.holds Try.pinned (OpenSpec.upto sumTwiceSpec)

/-- 'interpreterlaw02.SumUpdates', WHERE WHAT IT READS IS OF BULK AT MOST 1048576: true; the input reads as it did. -/
def sumUpdatesUptoRow : OpenClaim := { program := "ytjekkpnmpcpgaaa", sum := "f9a51ad2123bdad23a165e24d82622e426e6e1a94c044df2a9d23e0d3484f238", func := "interpreter/interpreterlaw02.SumUpdates", spec := "sumUpdates", apart := false, narrowed := true }
def SumUpdatesUptoSaid : Prop := sumUpdatesUptoRow.holds Try.pinned (OpenSpec.upto sumUpdatesSpec)

/-- 'interpreterlaw02.SumKeeps', WHERE WHAT IT READS IS OF BULK AT MOST 1048576: true; the input reads as it did. -/
def sumKeepsUptoRow : OpenClaim := { program := "ytjekkpnmpcpgaaa", sum := "f9a51ad2123bdad23a165e24d82622e426e6e1a94c044df2a9d23e0d3484f238", func := "interpreter/interpreterlaw02.SumKeeps", spec := "sumKeeps", apart := false, narrowed := true }
def SumKeepsUptoSaid : Prop := sumKeepsUptoRow.holds Try.pinned (OpenSpec.upto sumKeepsSpec)

/-- 'interpreterlaw02.SumBack', WHERE WHAT IT READS IS OF BULK AT MOST 1048576: true; the input reads as it did. -/
def sumBackUptoRow : OpenClaim := { program := "ytjekkpnmpcpgaaa", sum := "f9a51ad2123bdad23a165e24d82622e426e6e1a94c044df2a9d23e0d3484f238", func := "interpreter/interpreterlaw02.SumBack", spec := "sumBack", apart := false, narrowed := true }
def SumBackUptoSaid : Prop := sumBackUptoRow.holds Try.pinned (OpenSpec.upto sumBackSpec)

/-- 'interpreterlaw02.SumChain', WHERE WHAT IT READS IS OF BULK AT MOST 1048576: true; the input reads as it did. -/
def sumChainUptoRow : OpenClaim := { program := "ytjekkpnmpcpgaaa", sum := "f9a51ad2123bdad23a165e24d82622e426e6e1a94c044df2a9d23e0d3484f238", func := "interpreter/interpreterlaw02.SumChain", spec := "sumChain", apart := false, narrowed := true }
def SumChainUptoSaid : Prop := sumChainUptoRow.holds Try.pinned (OpenSpec.upto sumChainSpec)

/-- 'interpreterlaw02.SumHeads', WHERE WHAT IT READS IS OF BULK AT MOST 1048576: true; the input reads as it did. -/
def sumHeadsUptoRow : OpenClaim := { program := "ytjekkpnmpcpgaaa", sum := "f9a51ad2123bdad23a165e24d82622e426e6e1a94c044df2a9d23e0d3484f238", func := "interpreter/interpreterlaw02.SumHeads", spec := "sumHeads", apart := false, narrowed := true }
def SumHeadsUptoSaid : Prop := sumHeadsUptoRow.holds Try.pinned (OpenSpec.upto sumHeadsSpec)

/-- 'interpreterlaw02.SumKnown', WHERE WHAT IT READS IS OF BULK AT MOST 1048576: true; the input reads as it did. -/
def sumKnownUptoRow : OpenClaim := { program := "ytjekkpnmpcpgaaa", sum := "f9a51ad2123bdad23a165e24d82622e426e6e1a94c044df2a9d23e0d3484f238", func := "interpreter/interpreterlaw02.SumKnown", spec := "sumKnown", apart := false, narrowed := true }
def SumKnownUptoSaid : Prop := sumKnownUptoRow.holds Try.pinned (OpenSpec.upto sumKnownSpec)

end Rows
end Go.Proofs.Ytjekkpnmpcpgaaa
