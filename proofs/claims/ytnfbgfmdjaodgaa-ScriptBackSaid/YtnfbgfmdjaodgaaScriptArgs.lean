/- The laws' arguments: lists of bytes, of events. -/
import Derived.Test.YtnfbgfmdjaodgaaScriptCon
import Derived.Test.YtnfbgfmdjaodgaaEngZ
set_option linter.unusedVariables false
set_option linter.unusedSimpArgs false
open Go Go.Proofs.Ytnfbgfmdjaodgaa.Eng Go.RowKit
namespace Go.Proofs.Ytnfbgfmdjaodgaa.ScriptRun
section
variable {H : Type} {enc : TypeId × Value → H} {w : World}
def unB (b : UInt8) : List Value := [.int .u8 (b.toNat : Int)]
theorem unB_rel (ρ : List Eng.Loc) (b : UInt8) : VRels ρ (mkB b) (unB b) := ⟨_, _, rfl, rfl, rfl⟩
theorem el_byte (fuel : Nat) (cs : List Value) (y : DataW H × List MemPlace) (h : DataW.trod enc P w 0 (fun _ => true) true fuel 5 cs = some y) : ∃ b, cs = unB b ∧ True := by
  obtain ⟨n, rfl, _, hw⟩ := DataW.trod_int Go.Proofs.Try.underlying5 h
  have hn : 0 ≤ n ∧ n ≤ 255 := by simpa [Lit.wf, IntKind.min, IntKind.max, IntKind.signed, IntKind.bits] using hw
  refine ⟨UInt8.ofNat n.toNat, ?_, trivial⟩
  have : ((UInt8.ofNat n.toNat).toNat : Int) = n := by rw [UInt8.toNat_ofNat']; omega
  rw [unB, this]
def unE (e : Ev) : List Value := [.int .u8 e.1, .int .i64 e.2.1, .string e.2.2]
theorem unE_rel (ρ : List Eng.Loc) (e : Ev) : VRels ρ (mkEv e) (unE e) := ⟨_, _, rfl, rfl, _, _, rfl, rfl, _, _, rfl, rfl, rfl⟩
theorem el_ev (fuel : Nat) (cs : List Value) (y : DataW H × List MemPlace) (h : DataW.trod enc P w 0 (fun _ => true) true fuel 33 cs = some y) : ∃ e : Ev, cs = unE e ∧ True := by
  obtain ⟨y0, y1, y2, n, _, hl, h0, h1, h2⟩ := Go.Deep.trod_struct3 Go.Proofs.Try.underlying33 h
  obtain ⟨k, e0, _, _⟩ := DataW.trod_int Go.Proofs.Try.underlying5 h0
  obtain ⟨m, e1, _, _⟩ := DataW.trod_int Go.Proofs.Try.underlying3 h1
  obtain ⟨t, e2, _, _⟩ := DataW.trod_string Go.Proofs.Try.underlying9 h2
  have hc : P.cellsOf 33 = 3 := by kernel_rfl
  rw [hc] at hl
  match cs, hl with
  | [a, b, c], _ =>
    refine ⟨(k, m, t), ?_, trivial⟩
    have c0 : P.cellsOf 5 = 1 := by kernel_rfl
    have c1 : P.cellsOf 3 = 1 := by kernel_rfl
    have c2 : P.cellsOf 9 = 1 := by kernel_rfl
    simp only [c0, c1, c2] at e0 e1 e2
    simp at e0 e1 e2
    subst e0 e1 e2
    rfl
end
end Go.Proofs.Ytnfbgfmdjaodgaa.ScriptRun
