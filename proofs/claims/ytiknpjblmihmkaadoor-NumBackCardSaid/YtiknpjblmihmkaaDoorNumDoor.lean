/- The listed variables: what the rows' condition gives of them; a start that meets it. -/
import Derived.Test.YtiknpjblmihmkaaDoorRows
import Derived.Test.YtiknpjblmihmkaaDoorEngE
import Derived.ChangeSame
import Derived.ChangeVars
import Derived.JoinedOf
import Derived.RowKit
import Derived.RowKitTokens
import Derived.LaidLaws
import Derived.LaidHandle
import Derived.LaidMore
import Derived.Stop.Joined
namespace Go.Proofs.YtiknpjblmihmkaaDoor.NumDoor
open Go Go.ChangeShapes Go.WideShapes Go.RowKit Go.Proofs.YtiknpjblmihmkaaDoor

abbrev laid1 : List (String × DataW Unit) := [("errors.errorType", Rows.laid_errors_errorType)]
abbrev laid4 : List (String × DataW Unit) := [("math/bits.deBruijn32tab", Rows.laid_math_bits_deBruijn32tab), ("math/bits.deBruijn64tab", Rows.laid_math_bits_deBruijn64tab), ("internal/strconv.uint64pow10", Rows.laid_internal_strconv_uint64pow10), ("errors.errorType", Rows.laid_errors_errorType)]
theorem own : ownKnob Tryd.prog.godebug = none := by kernel_rfl
theorem et : Tryd.prog.globalNamed "errors.errorType" = some 0 := by kernel_rfl
theorem rt : (Tryd.prog.cutTypes.find? (·.1 == "internal/reflectlite.rtype")).map (·.2) = some 89 := by kernel_rfl
theorem oneRow : ((List.range 144).filter fun t => Tryd.prog.rowNamed t [101, 114, 114, 111, 114]) = [28] := by kernel_rfl
theorem size : Tryd.prog.types.size = 144 := by kernel_rfl
theorem handle {W : World} (h : handlesMet Tryd.prog laid1 W) : W.cell? ⟨0, 0, none⟩ = some (.iface 89 (.agg #[.pointer (some ⟨4, 28, none⟩)])) := by
  obtain ⟨name, u, ty, e1, e2, e3, e4, e5⟩ := h _ (List.mem_singleton.2 rfl)
  have en : name = [101, 114, 114, 111, 114] := (Option.some.inj e1).symm
  subst en
  obtain rfl := Option.some.inj (rt.symm.trans e2)
  have hm : ty ∈ (List.range 144).filter fun t => Tryd.prog.rowNamed t [101, 114, 114, 111, 114] := List.mem_filter.2 ⟨List.mem_range.2 (by rw [← size]; exact e3), e4⟩
  rw [oneRow] at hm
  obtain rfl := List.mem_singleton.1 hm
  have hh : typeHandle Tryd.prog 28 = .pointer (some ⟨4, 28, none⟩) := by kernel_rfl
  rw [hh] at e5
  simpa using World.var?_cell et e5 0
theorem of1 {W : World} (h : laidMetH Tryd.prog laid1 W) : Eng.globOk W := handle (show laidMet Tryd.prog [] W ∧ handlesMet Tryd.prog laid1 W from h).2
theorem of4 {W : World} (h : laidMetH Tryd.prog laid4 W) : Eng.globOk W := handle (show laidMet Tryd.prog _ W ∧ handlesMet Tryd.prog laid1 W from h).2
theorem start {W : World} (h : Eng.globOk W) : Eng.Glob (W.heap.size ≤ ·) W := by
  refine Eng.Glob.start (fun b hb => ?_) h
  obtain rfl : b = 0 := by simpa [Eng.globs] using hb
  rcases Nat.eq_zero_or_pos W.heap.size with h0 | h1
  · have h' : W.cell? ⟨0, 0, none⟩ = some (.iface 89 (.agg #[.pointer (some ⟨4, 28, none⟩)])) := h
    simp [World.cell?, h0] at h'
  · exact h1
noncomputable abbrev door (os : Os) : World := World.doorLaid Tryd.prog 400 os
theorem met1 (os : Os) (args : Array Value) : laidMetH Tryd.prog laid1 ((door os).forCall (fun _ _ => 0) ⟨#[], args, []⟩).memory :=
  laidMetH_of_parts3 (fuel := 8) (laidMet_nil _ _) (by kernel_rfl) (by kernel_rfl)
theorem met4 (os : Os) (args : Array Value) : laidMetH Tryd.prog laid4 ((door os).forCall (fun _ _ => 0) ⟨#[], args, []⟩).memory :=
  laidMetH_of_parts3 (fuel := 8) (laidMet_of_run' 8 (by kernel_rfl) (by kernel_rfl)) (by kernel_rfl) (by kernel_rfl)
theorem shaped (os : Os) (args : Array Value) : ((door os).forCall (fun _ _ => 0) ⟨#[], args, []⟩).Shaped Tryd.prog := World.shaped_of_RefB (by kernel_rfl) (by kernel_rfl)
end Go.Proofs.YtiknpjblmihmkaaDoor.NumDoor
