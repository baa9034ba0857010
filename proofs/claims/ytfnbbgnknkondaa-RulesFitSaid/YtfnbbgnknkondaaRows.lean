/-
  No cell of these rows narrows 'for every input' (looked for: loops, veiled, ifaces, maps, wideKeys, modest, calm, conditions, laid).
  DERIVED. THE GIVEN ROWS OF THIS SEAT. 6 by the template 'for every input the law returns true; each argument reads behind the call as it read before'; 0 by the template 'total and deterministic' (their statements: YtfnbbgnknkondaaTotals.lean).
  GIVEN WITH THE SEED: the statements are not yours to turn. If you find one false, say at which input.
  Laid BY PROGRAM, IN A SANDBOX (cutbox-rows.mjs): the forced cells as the released guide's own fill.sh prints them over the translation e05d40329283a01c… (all of the seat's roots in one cut). By AI agents, Wed Nov 11 2026. No macro, syntax, notation, axiom, sorry.
-/
import Derived.Test.YtfnbbgnknkondaaChecked
import GoSem.Claim
import GoSem.ClaimJoined
import GoSem.ClaimMapViews
import Derived.JoinedTies
import Derived.KernelRfl
namespace Go.Proofs.Ytfnbbgnknkondaa
/- THE CELL 'sum', in the pinned program and in every row, IS THE sha256 OF THE DUMP (.gsa) THAT YtfnbbgnknkondaaProg.lean LOADS. Nothing in Lean hashes anything: it is a label: what it is worth is what the hold of that sum in a sandbox is worth. -/
noncomputable def Try.pinned : Pinned := { name := "ytfnbbgnknkondaa", sum := "e05d40329283a01c979cc8b270a357761618fe54e6d2601b1720a9e15375ea12", checked := Try.checked }
namespace Rows
def none {H : Type} : Left H := { results := [], args := [] }

/-- 'interpreterlaw25.RulesFit': WHATEVER THE INPUT: true; the input reads as it did. -/
def rulesFitSpec : ChangeSpec := { name := "rulesFit", fn := fun _ => fun
  | [d1, d2] => { results := [.lit (.bool true)], args := [d1, d2] }
  | _ => none }
def rulesFitRow : OpenClaim := { program := "ytfnbbgnknkondaa", sum := "e05d40329283a01c979cc8b270a357761618fe54e6d2601b1720a9e15375ea12", func := "interpreter/interpreterlaw25.RulesFit", spec := "rulesFit", inPlace := ["slices.overlaps[interpreter/rules.Rule]"], unfollowed := true, recurses := true, apart := false }
def RulesFitSaid : Prop := rulesFitRow.holds Try.pinned (OpenSpec.ofChange rulesFitSpec)

/-- ITS FALSE NEIGHBOUR: 'it returns false'. Refute it at one input. -/
def rulesFitWrong : ChangeSpec := { name := "rulesFit", fn := fun _ => fun
  | [d1, d2] => { results := [.lit (.bool false)], args := [d1, d2] }
  | _ => none }
def RulesFitWrongFalsely : Prop := rulesFitRow.holds Try.pinned (OpenSpec.ofChange rulesFitWrong)

/-- 'interpreterlaw25.RulesFirst': WHATEVER THE INPUT: true; the input reads as it did. -/
def rulesFirstSpec : ChangeSpec := { name := "rulesFirst", fn := fun _ => fun
  | [d1, d2, d3, d4] => { results := [.lit (.bool true)], args := [d1, d2, d3, d4] }
  | _ => none }
def rulesFirstRow : OpenClaim := { program := "ytfnbbgnknkondaa", sum := "e05d40329283a01c979cc8b270a357761618fe54e6d2601b1720a9e15375ea12", func := "interpreter/interpreterlaw25.RulesFirst", spec := "rulesFirst", inPlace := ["slices.overlaps[interpreter/rules.Rule]"], unfollowed := true, recurses := true, apart := false }
def RulesFirstSaid : Prop := rulesFirstRow.holds Try.pinned (OpenSpec.ofChange rulesFirstSpec)

/-- ITS FALSE NEIGHBOUR: 'it returns false'. Refute it at one input. -/
def rulesFirstWrong : ChangeSpec := { name := "rulesFirst", fn := fun _ => fun
  | [d1, d2, d3, d4] => { results := [.lit (.bool false)], args := [d1, d2, d3, d4] }
  | _ => none }
def RulesFirstWrongFalsely : Prop := rulesFirstRow.holds Try.pinned (OpenSpec.ofChange rulesFirstWrong)

/-- 'interpreterlaw25.RulesNets': WHATEVER THE INPUT: true; the input reads as it did. -/
def rulesNetsSpec : ChangeSpec := { name := "rulesNets", fn := fun _ => fun
  | [d1, d2, d3, d4] => { results := [.lit (.bool true)], args := [d1, d2, d3, d4] }
  | _ => none }
def rulesNetsRow : OpenClaim := { program := "ytfnbbgnknkondaa", sum := "e05d40329283a01c979cc8b270a357761618fe54e6d2601b1720a9e15375ea12", func := "interpreter/interpreterlaw25.RulesNets", spec := "rulesNets", inPlace := ["slices.overlaps[interpreter/rules.Rule]"], unfollowed := true, recurses := true, apart := false }
def RulesNetsSaid : Prop := rulesNetsRow.holds Try.pinned (OpenSpec.ofChange rulesNetsSpec)

/-- ITS FALSE NEIGHBOUR: 'it returns false'. Refute it at one input. -/
def rulesNetsWrong : ChangeSpec := { name := "rulesNets", fn := fun _ => fun
  | [d1, d2, d3, d4] => { results := [.lit (.bool false)], args := [d1, d2, d3, d4] }
  | _ => none }
def RulesNetsWrongFalsely : Prop := rulesNetsRow.holds Try.pinned (OpenSpec.ofChange rulesNetsWrong)

/-- 'interpreterlaw25.RulesPlay': WHATEVER THE INPUT: true; the input reads as it did. -/
def rulesPlaySpec : ChangeSpec := { name := "rulesPlay", fn := fun _ => fun
  | [d] => { results := [.lit (.bool true)], args := [d] }
  | _ => none }
def rulesPlayRow : OpenClaim := { program := "ytfnbbgnknkondaa", sum := "e05d40329283a01c979cc8b270a357761618fe54e6d2601b1720a9e15375ea12", func := "interpreter/interpreterlaw25.RulesPlay", spec := "rulesPlay", inPlace := ["slices.overlaps[interpreter/rules.Rule]"], unfollowed := true, recurses := true, apart := false }
def RulesPlaySaid : Prop := rulesPlayRow.holds Try.pinned (OpenSpec.ofChange rulesPlaySpec)

/-- ITS FALSE NEIGHBOUR: 'it returns false'. Refute it at one input. -/
def rulesPlayWrong : ChangeSpec := { name := "rulesPlay", fn := fun _ => fun
  | [d] => { results := [.lit (.bool false)], args := [d] }
  | _ => none }
def RulesPlayWrongFalsely : Prop := rulesPlayRow.holds Try.pinned (OpenSpec.ofChange rulesPlayWrong)

/-- 'interpreterlaw25.RulesNobody': WHATEVER THE INPUT: true; the input reads as it did. -/
def rulesNobodySpec : ChangeSpec := { name := "rulesNobody", fn := fun _ => fun
  | [d1, d2, d3] => { results := [.lit (.bool true)], args := [d1, d2, d3] }
  | _ => none }
def rulesNobodyRow : OpenClaim := { program := "ytfnbbgnknkondaa", sum := "e05d40329283a01c979cc8b270a357761618fe54e6d2601b1720a9e15375ea12", func := "interpreter/interpreterlaw25.RulesNobody", spec := "rulesNobody", inPlace := ["slices.overlaps[interpreter/rules.Rule]"], unfollowed := true, recurses := true, apart := false }
def RulesNobodySaid : Prop := rulesNobodyRow.holds Try.pinned (OpenSpec.ofChange rulesNobodySpec)

/-- ITS FALSE NEIGHBOUR: 'it returns false'. Refute it at one input. -/
def rulesNobodyWrong : ChangeSpec := { name := "rulesNobody", fn := fun _ => fun
  | [d1, d2, d3] => { results := [.lit (.bool false)], args := [d1, d2, d3] }
  | _ => none }
def RulesNobodyWrongFalsely : Prop := rulesNobodyRow.holds Try.pinned (OpenSpec.ofChange rulesNobodyWrong)

/-- 'interpreterlaw25.RulesKnown': WHATEVER THE INPUT: true; the input reads as it did. -/
def rulesKnownSpec : ChangeSpec := { name := "rulesKnown", fn := fun _ => fun
  | [] => { results := [.lit (.bool true)], args := [] }
  | _ => none }
def rulesKnownRow : OpenClaim := { program := "ytfnbbgnknkondaa", sum := "e05d40329283a01c979cc8b270a357761618fe54e6d2601b1720a9e15375ea12", func := "interpreter/interpreterlaw25.RulesKnown", spec := "rulesKnown", inPlace := ["slices.overlaps[interpreter/rules.Rule]"], unfollowed := true, recurses := true, apart := false }
def RulesKnownSaid : Prop := rulesKnownRow.holds Try.pinned (OpenSpec.ofChange rulesKnownSpec)

/-- ITS FALSE NEIGHBOUR: 'it returns false'. Refute it at one input. -/
def rulesKnownWrong : ChangeSpec := { name := "rulesKnown", fn := fun _ => fun
  | [] => { results := [.lit (.bool false)], args := [] }
  | _ => none }
def RulesKnownWrongFalsely : Prop := rulesKnownRow.holds Try.pinned (OpenSpec.ofChange rulesKnownWrong)

/- THE SECOND FORM. 'bulk': how many values and letters a reading holds, each counted each time it is reached (what is shared counts as often as it is met; a slice's spare places count too). A statement '..UptoSaid' is the law's where the arguments, and the package variables that the reading takes, are together of bulk at most 1048576: NARROWER than '..Said'. Prove '..Said' where nothing that the law and all that it calls make is longer than what came in: it says more and counts as full. Else prove '..UptoSaid'. A law counts once. -/
mutual
def uptoBulk {H : Type} : DataW H → Nat
  | .lit (.string bytes) => bytes.length + 1
  | .lit _ => 1
  | .nil => 1
  | .ptr d => uptoBulk d + 1
  | .slice elems spare => uptoBulkAll elems + uptoBulkAll spare + 1
  | .agg parts => uptoBulkAll parts + 1
  | .iface _ d => uptoBulk d + 1
  | .map entries => uptoBulkEntries entries + 1
  | .held _ => 1
def uptoBulkAll {H : Type} : List (DataW H) → Nat
  | [] => 0
  | d :: r => uptoBulk d + uptoBulkAll r
def uptoBulkEntries {H : Type} : List (Lit × DataW H) → Nat
  | [] => 0
  | x :: r => uptoBulkEntry x + uptoBulkEntries r
def uptoBulkEntry {H : Type} : Lit × DataW H → Nat
  | (.string bytes, d) => bytes.length + uptoBulk d + 1
  | (_, d) => uptoBulk d + 1
 end
def uptoSmall : (H : Type) → List (DataW H) → Bool := fun _ ds => decide (uptoBulkAll ds ≤ 1048576)
def OpenSpec.upto (s : _root_.Go.ChangeSpec) : _root_.Go.OpenSpec := { _root_.Go.OpenSpec.ofChange s with cond := some uptoSmall }

/-- 'interpreterlaw25.RulesFit', WHERE WHAT IT READS IS OF BULK AT MOST 1048576: true; the input reads as it did. -/
def rulesFitUptoRow : OpenClaim := { program := "ytfnbbgnknkondaa", sum := "e05d40329283a01c979cc8b270a357761618fe54e6d2601b1720a9e15375ea12", func := "interpreter/interpreterlaw25.RulesFit", spec := "rulesFit", inPlace := ["slices.overlaps[interpreter/rules.Rule]"], unfollowed := true, recurses := true, apart := false, narrowed := true }
def RulesFitUptoSaid : Prop := rulesFitUptoRow.holds Try.pinned (OpenSpec.upto rulesFitSpec)

/-- 'interpreterlaw25.RulesFirst', WHERE WHAT IT READS IS OF BULK AT MOST 1048576: true; the input reads as it did. -/
def rulesFirstUptoRow : OpenClaim := { program := "ytfnbbgnknkondaa", sum := "e05d40329283a01c979cc8b270a357761618fe54e6d2601b1720a9e15375ea12", func := "interpreter/interpreterlaw25.RulesFirst", spec := "rulesFirst", inPlace := ["slices.overlaps[interpreter/rules.Rule]"], unfollowed := true, recurses := true, apart := false, narrowed := true }
def RulesFirstUptoSaid : Prop := rulesFirstUptoRow.holds Try.pinned (OpenSpec.upto rulesFirstSpec)

/-- 'interpreterlaw25.RulesNets', WHERE WHAT IT READS IS OF BULK AT MOST 1048576: true; the input reads as it did. -/
def rulesNetsUptoRow : OpenClaim := { program := "ytfnbbgnknkondaa", sum := "e05d40329283a01c979cc8b270a357761618fe54e6d2601b1720a9e15375ea12", func := "interpreter/interpreterlaw25.RulesNets", spec := "rulesNets", inPlace := ["slices.overlaps[interpreter/rules.Rule]"], unfollowed := true, recurses := true, apart := false, narrowed := true }
def RulesNetsUptoSaid : Prop := rulesNetsUptoRow.holds Try.pinned (OpenSpec.upto rulesNetsSpec)

/-- 'interpreterlaw25.RulesPlay', WHERE WHAT IT READS IS OF BULK AT MOST 1048576: true; the input reads as it did. -/
def rulesPlayUptoRow : OpenClaim := { program := "ytfnbbgnknkondaa", sum := "e05d40329283a01c979cc8b270a357761618fe54e6d2601b1720a9e15375ea12", func := "interpreter/interpreterlaw25.RulesPlay", spec := "rulesPlay", inPlace := ["slices.overlaps[interpreter/rules.Rule]"], unfollowed := true, recurses := true, apart := false, narrowed := true }
def RulesPlayUptoSaid : Prop := rulesPlayUptoRow.holds Try.pinned (OpenSpec.upto rulesPlaySpec)

/-- 'interpreterlaw25.RulesNobody', WHERE WHAT IT READS IS OF BULK AT MOST 1048576: true; the input reads as it did. -/
def rulesNobodyUptoRow : OpenClaim := { program := "ytfnbbgnknkondaa", sum := "e05d40329283a01c979cc8b270a357761618fe54e6d2601b1720a9e15375ea12", func := "interpreter/interpreterlaw25.RulesNobody", spec := "rulesNobody", inPlace := ["slices.overlaps[interpreter/rules.Rule]"], unfollowed := true, recurses := true, apart := false, narrowed := true }
def RulesNobodyUptoSaid : Prop := rulesNobodyUptoRow.holds Try.pinned (OpenSpec.upto rulesNobodySpec)

/-- 'interpreterlaw25.RulesKnown', WHERE WHAT IT READS IS OF BULK AT MOST 1048576: true; the input reads as it did. -/
def rulesKnownUptoRow : OpenClaim := { program := "ytfnbbgnknkondaa", sum := "e05d40329283a01c979cc8b270a357761618fe54e6d2601b1720a9e15375ea12", func := "interpreter/interpreterlaw25.RulesKnown", spec := "rulesKnown", inPlace := ["slices.overlaps[interpreter/rules.Rule]"], unfollowed := true, recurses := true, apart := false, narrowed := true }
def RulesKnownUptoSaid : Prop := rulesKnownUptoRow.holds Try.pinned (OpenSpec.upto rulesKnownSpec)

end Rows
end Go.Proofs.Ytfnbbgnknkondaa
