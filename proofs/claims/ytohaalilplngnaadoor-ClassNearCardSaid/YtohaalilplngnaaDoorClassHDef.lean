/- The forms of states of the loops over addresses. -/
import Derived.Test.YtohaalilplngnaaDoorClassUtil
set_option linter.unusedVariables false
set_option linter.unusedSimpArgs false
open Go Go.Proofs.YtohaalilplngnaaDoor.Eng Go.RowKit
namespace Go.Proofs.YtohaalilplngnaaDoor.ClassRun
def bads (n : Nat) : List AV := List.replicate n .bad
def head68 (off len : Nat) (cap : Option Nat) (n : Int) (c : List AV) : Nat → Option Head := fun r => match r with
  | 2 => some (Head.one (Get.int 10) fun i => ⟨[.sl 0 off len 1 cap, .i .i64 n, .bad, .bad, .bad, .bad, .bad, .bad, .sl 0 off len 1 cap, .i .i64 len, .i .i64 i] ++ bads 15, [.cells c false]⟩)
  | _ => none
def head48 (oa ob len lenb : Nat) (ca cb : Option Nat) (n : Int) (c d : List AV) : Nat → Option Head := fun r => match r with
  | 2 => some (Head.one (Get.int 11) fun i => ⟨[.sl 0 oa len 1 ca, .sl 1 ob lenb 1 cb, .i .i64 n, .bad, .bad, .bad, .bad, .bad, .bad, .bad, .i .i64 len, .i .i64 i] ++ bads 22, [.cells c false, .cells d false]⟩)
  | _ => none
end Go.Proofs.YtohaalilplngnaaDoor.ClassRun
