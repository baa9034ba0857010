/- NumKnown: a run without addresses, which the kernel carries out. -/
import Derived.Test.YtiknpjblmihmkaaDoorNumAwake
namespace Go.Proofs.YtiknpjblmihmkaaDoor.NumRun
open Go Go.Proofs.YtiknpjblmihmkaaDoor.Eng Go.RowKit
def W9 : FuncId → Nat → Option Eng.Road
  | 29, 4 => some ⟨some ([], (.pure 0 (.pure 5 (.any 1 (.old 6 (.eff 2 (.pure 3 (.pure 4 (.eff 7 (.pure 8 (.pure 9 .nil))))))))))), .nil⟩
  | _, _ => none
noncomputable def Γ9 : Env := envN P W9 60 [9, 10, 12, 14, 15, 17, 18, 19, 20, 21, 23, 25, 27, 28, 29, 32, 33, 38, 42, 43, 44, 45] [] C0 12
theorem Γ9_s : Sound P Γ9 := envN_sound (by kernel_rfl) (by kernel_rfl) ΓA_s _
set_option maxRecDepth 10000000 in
theorem known_true : isTrue (Γ9 9 [] []) = true := by kernel_rfl
end Go.Proofs.YtiknpjblmihmkaaDoor.NumRun
