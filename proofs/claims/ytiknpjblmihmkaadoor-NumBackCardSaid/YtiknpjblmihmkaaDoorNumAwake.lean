/- What begins every statement of the chapter: it answers true. -/
import Derived.Test.YtiknpjblmihmkaaDoorNumCon
namespace Go.Proofs.YtiknpjblmihmkaaDoor.NumRun
open Go Go.Proofs.YtiknpjblmihmkaaDoor.Eng Go.RowKit
noncomputable abbrev C0 : Env := with1 30 Cas noEnv
noncomputable def Γ10 : Env := envN P (fun _ _ => none) 60 [10, 14, 18, 19, 20, 23, 27, 32] [] C0 6
theorem Γ10_s : Sound P Γ10 := envN_sound (by kernel_rfl) (by kernel_rfl) ΓA_s _
def isTrue (r : Option (AV × Hp)) : Bool := match r with
  | some (.bo true, _) => true
  | _ => false
theorem isTrue_spec {r : Option (AV × Hp)} (h : isTrue r = true) : ∃ h', r = some (.bo true, h') := by
  unfold isTrue at h
  split at h
  · exact ⟨_, rfl⟩
  · cases h
set_option maxRecDepth 10000000 in
theorem awake_true : isTrue (Γ10 10 [] []) = true := by kernel_rfl
theorem awake_s : SoundF P 10 (Cconst (.bo true)) := by
  obtain ⟨h', he⟩ := isTrue_spec awake_true
  exact SoundF.const Γ10_s he rfl
end Go.Proofs.YtiknpjblmihmkaaDoor.NumRun
