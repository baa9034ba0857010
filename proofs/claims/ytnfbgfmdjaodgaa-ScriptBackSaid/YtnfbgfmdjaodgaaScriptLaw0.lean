/- The laws' callees. -/
import Derived.Test.YtnfbgfmdjaodgaaScriptEnc
set_option linter.unusedVariables false
set_option linter.unusedSimpArgs false
open Go Go.Proofs.Ytnfbgfmdjaodgaa.Eng Go.RowKit
namespace Go.Proofs.Ytnfbgfmdjaodgaa.ScriptRun
def unL1 (args : List AV) : Option (Unit × AV) := match args with
  | [a] => some ((), a)
  | _ => none
def unL2 (args : List AV) : Option (Unit × AV × AV) := match args with
  | [a, b] => some ((), a, b)
  | _ => none
def okL1 (q : Unit × List UInt8) : Prop := okB q.2
def okL2 (q : Unit × List Ev × List Ev) : Prop := q.2.1.length ≤ 1099511627776 ∧ q.2.2.length ≤ 1099511627776
def okLE (q : Unit × List Ev) : Prop := okEv q.2
def okLG (q : Unit × List Ev) : Prop := q.2.length ≤ 9223372036854775807
def okSt (s : ByteArray) : Prop := s.size ≤ 1099511627776
def outE (bl : List Ev → List UInt8) (er : List Ev → Int) : Out (Unit × List Ev) := fun x K => (Holds (bl x.2 = []) → K (.tu [.sn, .i .i64 (er x.2)]) []) ∧ (Holds (bl x.2 ≠ []) → K (.tu [.sl 0 0 (bl x.2).length 1 none, .i .i64 (er x.2)]) [.cells (recs mkB (bl x.2)) true])
abbrev TL (De : List UInt8 → List Ev) (DeS : ByteArray → List Ev) (Sm : List Ev → List Ev → Bool) (bl : List Ev → List UInt8) (er : List Ev → Int) (Gr : List Ev → Bool) (nn : List Ev → Int) (ov : Ev → Bool) : TEnv :=
  tcons 10 (tconst (.bo true)) (tcons 11 (t1 1 mkB unL1 okL1 fun x => outL 3 mkEv (De x.2)) (tcons 12 (t2 3 3 mkEv mkEv unL2 okL2 fun x K => K (.bo (Sm x.2.1 x.2.2)) [])
  (tcons 13 (t0 unStr okSt fun s => outL 3 mkEv (DeS s)) (tcons 14 (t1 3 mkEv unL1 okLE (outE bl er)) (tcons 15 (t1 3 mkEv unL1 okLG fun x K => K (.bo (Gr x.2)) [])
  (tcons 16 (t1 3 mkEv unL1 okLE fun x K => K (.tu [.i .i64 (nn x.2), .i .i64 (er x.2)]) []) (tcons 17 (t0 unEv (fun e => e.2.2.size ≤ 4611686018427387904) fun x K => K (.bo (ov x)) []) (tcons 18 (t0 unEv (fun _ => True) fun x K => K (.bo (ov x)) []) tnil))))))))
def W8 : Nat → Option Road
  | 12 => some ⟨some ([], (.pure 0 (.pure 1 (.pure 2 (.pure 5 (.pure 6 (.pure 7 (.any 3 (.old 8 (.eff 4 (.eff 9 (.pure 10 .nil)))))))))))), .nil⟩
  | _ => none
end Go.Proofs.Ytnfbgfmdjaodgaa.ScriptRun
