/- NumNobody: a run without addresses, whatever the number. -/
import Derived.Test.YtiknpjblmihmkaaDoorNumClosed
namespace Go.Proofs.YtiknpjblmihmkaaDoor.NumRun
open Go Go.Proofs.YtiknpjblmihmkaaDoor.Eng Go.RowKit
noncomputable def Γ7 : Env := envN P W9 60 [7, 10, 12, 14, 15, 17, 18, 19, 20, 21, 23, 25, 27, 28, 29, 32, 33, 38, 42, 43, 44, 45] [] C0 12
theorem Γ7_s : Sound P Γ7 := envN_sound (by kernel_rfl) (by kernel_rfl) ΓA_s _
set_option maxRecDepth 10000000 in
theorem nobody_true (n : Int) : isTrue (Γ7 7 [.i .i64 n] []) = true := by kernel_rfl
end Go.Proofs.YtiknpjblmihmkaaDoor.NumRun
