/- The laws' arguments: a list of acts. -/
import Derived.Test.YtiknpjblmihmkaaDoorNumReads
import Derived.Test.YtiknpjblmihmkaaDoorEngZ
import Derived.WalkKit
import Derived.ProofKit
import Derived.ChangeSame
set_option linter.unusedVariables false
open Go Go.Proofs.YtiknpjblmihmkaaDoor.Eng Go.RowKit
namespace Go.Proofs.YtiknpjblmihmkaaDoor.NumRun
def unA (q : Int × Int) : List Value := [.int .i64 q.1, .int .i64 q.2]
theorem unA_rel (ρ : List Eng.Loc) (q : Int × Int) : VRels ρ (mkA q) (unA q) := ⟨_, _, rfl, rfl, _, _, rfl, rfl, rfl⟩
theorem mkA_len (q : Int × Int) : (mkA q).length = 2 := rfl
set_option maxRecDepth 100000 in
theorem el_act {H : Type} {enc : TypeId × Value → H} {w : World} (fuel : Nat) (cs : List Value) (y : DataW H × List MemPlace) (h : DataW.trod enc P w 0 (fun _ => true) true fuel 49 cs = some y) : ∃ q : Int × Int, cs = unA q ∧ (ok64 q.1 ∧ ok64 q.2) := by
  obtain ⟨y0, y1, n, _, hl, h0, h1⟩ := Go.ChangeShapes.trod_struct2 Go.Proofs.Tryd.underlying49 h
  obtain ⟨k, e0, _, hk⟩ := DataW.trod_int Go.Proofs.Tryd.underlying3 h0
  obtain ⟨m, e1, _, hm⟩ := DataW.trod_int Go.Proofs.Tryd.underlying3 h1
  have hc : P.cellsOf 49 = 2 := by kernel_rfl
  rw [hc] at hl
  match cs, hl with
  | [a, b], _ =>
    have c0 : P.cellsOf 3 = 1 := by kernel_rfl
    simp only [c0] at e0 e1
    simp at e0 e1
    refine ⟨(k, m), ?_, ?_, ?_⟩
    · subst e0 e1; rfl
    · simpa [ok64, Lit.wf, IntKind.min, IntKind.max, IntKind.signed, IntKind.bits] using hk
    · simpa [ok64, Lit.wf, IntKind.min, IntKind.max, IntKind.signed, IntKind.bits] using hm
end Go.Proofs.YtiknpjblmihmkaaDoor.NumRun
