/- ScriptKnown, a closed statement: by a run without addresses, which the kernel carries out. -/
import Derived.Test.YtnfbgfmdjaodgaaRows
import Derived.Test.YtnfbgfmdjaodgaaEngO
import Derived.WalkKit
import Derived.ProofKit
import Derived.OpenShut
import Derived.ShutString
import Derived.ChangeOld
import Derived.Below
import Derived.SizedLaws
namespace Go.Proofs.Ytnfbgfmdjaodgaa.scriptKnown
open Go.ChangeShapes Go.WideShapes Go.ChangeAt Go.RowKit
open Go.Proofs.Ytnfbgfmdjaodgaa.Eng
set_option linter.unusedVariables false
def W : FuncId → Nat → Option Eng.Road
  | 8, 12 => some ⟨some ([], (.pure 0 (.pure 1 (.pure 2 (.pure 5 (.pure 6 (.pure 7 (.any 3 (.old 8 (.eff 4 (.eff 9 (.pure 10 .nil)))))))))))), .nil⟩
  | 19, 5 => some ⟨some ([2], (.pure 2 (.pure 3 (.any 0 (.old 1 (.old 4 (.pure 5 (.eff 6 (.pure 7 (.pure 8 .nil)))))))))), .nil⟩
  | 22, 6 => some ⟨some ([], (.pure 0 (.pure 1 (.pure 6 (.any 2 (.pure 3 (.old 7 (.eff 4 (.pure 5 (.pure 8 (.pure 9 .nil))))))))))), .nil⟩
  | 22, 7 => some ⟨some ([], (.pure 0 (.pure 1 (.pure 6 (.any 2 (.pure 3 (.old 7 (.eff 4 (.pure 5 (.pure 8 (.pure 9 .nil))))))))))), .nil⟩
  | 27, 2 => some ⟨some ([], (.pure 1 (.pure 2 (.any 3 (.old 0 (.eff 4 (.pure 5 .nil))))))), (.eff 6 .nil)⟩
  | 29, 2 => some ⟨some ([], (.pure 1 (.pure 2 (.pure 5 (.pure 7 (.pure 8 (.any 3 (.pure 4 (.old 0 (.old 9 (.eff 6 (.pure 10 (.pure 11 .nil))))))))))))), (.eff 12 .nil)⟩
  | _, _ => none
def L : List FuncId := [4, 10, 11, 14, 19, 21, 23, 24, 25, 26, 27, 28, 29, 31]
noncomputable def Γ : Eng.Env := envN Try.prog W 3000 L [] noEnv 10
theorem Γ_sound : Eng.Sound Try.prog Γ := envN_sound (by kernel_rfl) (by kernel_rfl) (noEnv_sound _) _
def isTrue (r : Option (Eng.AV × Eng.Hp)) : Bool := match r with
  | some (.bo true, _) => true
  | _ => false
theorem isTrue_spec {r : Option (Eng.AV × Eng.Hp)} (h : isTrue r = true) : ∃ h', r = some (.bo true, h') := by
  unfold isTrue at h
  split at h
  · exact ⟨_, rfl⟩
  · cases h
set_option maxRecDepth 10000000 in
theorem answers : isTrue (Γ 4 [] []) = true := by kernel_rfl
theorem walk (w : World) : Calls Try.prog 4 #[] w fun e w' => e = .returned (.bool true) ∧ Below w.heap.size w w' := by
  obtain ⟨h', he⟩ := isTrue_spec answers
  refine (calls_nothing Γ_sound (vs := []) he rfl w).mono fun e w' hp => ?_
  obtain ⟨σ, z, h1, h2, h3, h4⟩ := hp
  cases h3
  exact ⟨h1, h4⟩
theorem own : ownKnob Try.prog.godebug = none := by kernel_rfl
set_option maxRecDepth 100000 in
theorem lifted (os : Os) (started : os.Started) (H : Type) (enc : TypeId × Value → H) :
    ReturnsInHanded {} Try.checked os 4 .any (Rows.scriptKnownSpec.pre6 enc Try.prog Try.f4 Rows.scriptKnownRow.domain false) (Rows.scriptKnownSpec.post enc Try.prog Try.f4 false true false false) := by
  refine returnsInHanded_of_change_sized (C := Try.checked) own started (by kernel_rfl) Try.func4
    (ChangeSpec.witness6 (enc := enc) (C := Try.checked) false ⟨#[], #[], []⟩ 8 (by kernel_rfl) (by kernel_rfl) (by kernel_rfl) (by kernel_rfl)) ?_
  intro W base args ds gs before hval0 hW hcnd hsz0 _
  have hW' := hW
  obtain ⟨p, q, hA0, hV, rfl, hfz, hnd⟩ := hW
  have hA : DataW.TrodAll enc Try.prog W 0 (fun _ => true) true Try.f4.params.toList args.toList ds p := hA0
  rw [Try.params4] at hA
  obtain ⟨hnil, rfl, rfl⟩ := trodAll_nil hA
  obtain rfl : args = #[] := by cases args; simp_all
  obtain ⟨rfl, rfl⟩ := trodVars_none hV
  refine (walk W).mono fun e W' ⟨he, bel⟩ => ?_
  subst he
  exact ⟨_, rfl, _, _, _, [], _, [], hW', trodAll_mk1 (shut_bool Try.underlying4 _), trodAll_mk0, rfl, bel.frame _, fun h => by cases h⟩
theorem over : Rows.scriptKnownRow.holds Try.pinned (OpenSpec.ofChange Rows.scriptKnownSpec) :=
  OpenClaim.holds_of_wide 4 Try.f4 rfl rfl rfl rfl rfl rfl rfl ⟨rfl, rfl, rfl, rfl, rfl⟩ rfl rfl rfl rfl rfl (by kernel_rfl) Try.func4 (by kernel_rfl)
    (of_decide_eq_true (by kernel_rfl)) (by unfold Func.isWrapper; first | (rw [if_pos (by decide +kernel)]; kernel_rfl) | (rw [if_neg (by decide +kernel)]; exact ⟨rfl, rfl⟩))
    (fun os started H enc _ => lifted os started H enc)
theorem proved : Rows.ScriptKnownSaid := over
end Go.Proofs.Ytnfbgfmdjaodgaa.scriptKnown
namespace Go.Proofs.Ytnfbgfmdjaodgaa
theorem scriptKnown_holds : Rows.ScriptKnownSaid := scriptKnown.proved
end Go.Proofs.Ytnfbgfmdjaodgaa
