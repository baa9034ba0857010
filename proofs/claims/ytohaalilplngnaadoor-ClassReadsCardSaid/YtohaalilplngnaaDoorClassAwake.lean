/- What begins every statement of the chapter: it answers true. -/
import Derived.Test.YtohaalilplngnaaDoorClassCon
namespace Go.Proofs.YtohaalilplngnaaDoor.ClassRun
open Go Go.Proofs.YtohaalilplngnaaDoor.Eng Go.RowKit
def Wn : FuncId → Nat → Option Eng.Road
  | 5, 6 => some ⟨some ([], (.pure 1 (.any 0 (.old 3 (.eff 2 (.eff 4 (.pure 5 .nil))))))), .nil⟩
  | 5, 7 => some ⟨some ([], (.pure 1 (.any 0 (.old 3 (.eff 2 (.eff 4 (.pure 5 .nil))))))), .nil⟩
  | 5, 8 => some ⟨some ([], (.pure 1 (.pure 2 (.any 0 (.old 4 (.eff 3 (.eff 5 (.pure 6 .nil)))))))), .nil⟩
  | 5, 9 => some ⟨some ([], (.pure 1 (.pure 2 (.pure 3 (.pure 4 (.any 0 (.old 6 (.eff 5 (.eff 7 (.pure 8 .nil)))))))))), .nil⟩
  | 6, 5 => some ⟨some ([], (.pure 0 (.pure 1 (.pure 2 (.any 3 (.old 5 (.eff 4 (.eff 6 (.pure 7 (.pure 8 (.pure 9 (.any 10 (.any 11 (.old 13 (.old 14 (.eff 12 (.eff 15 (.pure 16 (.pure 17 .nil))))))))))))))))))), .nil⟩
  | 6, 9 => some ⟨some ([], (.any 0 (.any 1 (.eff 2 (.pure 3 (.pure 4 (.any 5 (.any 6 (.eff 7 (.pure 8 (.pure 9 (.any 10 (.any 11 (.pure 12 (.pure 13 (.any 14 (.any 15 (.old 17 (.eff 16 (.eff 18 (.pure 19 (.pure 20 (.pure 21 (.pure 22 .nil)))))))))))))))))))))))), .nil⟩
  | 8, 5 => some ⟨some ([], (.pure 0 (.pure 4 (.old 1 (.old 5 (.two 2 (.pure 3 (.two 6 (.pure 7 (.two 8 (.pure 9 (.pure 10 (.pure 11 (.eff 12 .nil)))) 12 (.eff 8 (.pure 9 (.pure 10 (.pure 11 .nil)))) .nil)) 12 (.eff 6 (.pure 7 (.eff 8 (.pure 9 (.pure 10 (.pure 11 .nil)))))) .nil)) 12 (.eff 2 (.pure 3 (.eff 6 (.pure 7 (.eff 8 (.pure 9 (.pure 10 (.pure 11 .nil)))))))) .nil)))))), (.eff 13 (.pure 14 .nil))⟩
  | 8, 6 => some ⟨some ([], (.pure 0 (.pure 4 (.old 1 (.old 5 (.two 2 (.pure 3 (.two 6 (.pure 7 (.two 8 (.pure 9 (.pure 10 (.pure 11 (.eff 12 .nil)))) 12 (.eff 8 (.pure 9 (.pure 10 (.pure 11 .nil)))) .nil)) 12 (.eff 6 (.pure 7 (.eff 8 (.pure 9 (.pure 10 (.pure 11 .nil)))))) .nil)) 12 (.eff 2 (.pure 3 (.eff 6 (.pure 7 (.eff 8 (.pure 9 (.pure 10 (.pure 11 .nil)))))))) .nil)))))), (.eff 13 (.pure 14 .nil))⟩
  | 8, 15 => some ⟨some ([], (.pure 0 (.pure 4 (.old 1 (.old 5 (.two 2 (.pure 3 (.two 6 (.pure 7 (.two 8 (.pure 9 (.pure 10 (.pure 11 (.eff 12 .nil)))) 12 (.eff 8 (.pure 9 (.pure 10 (.pure 11 .nil)))) .nil)) 12 (.eff 6 (.pure 7 (.eff 8 (.pure 9 (.pure 10 (.pure 11 .nil)))))) .nil)) 12 (.eff 2 (.pure 3 (.eff 6 (.pure 7 (.eff 8 (.pure 9 (.pure 10 (.pure 11 .nil)))))))) .nil)))))), (.eff 13 (.pure 14 .nil))⟩
  | 8, 20 => some ⟨some ([], (.pure 0 (.pure 4 (.old 1 (.old 5 (.two 2 (.pure 3 (.two 6 (.pure 7 (.two 8 (.pure 9 (.pure 10 (.pure 11 (.eff 12 .nil)))) 12 (.eff 8 (.pure 9 (.pure 10 (.pure 11 .nil)))) .nil)) 12 (.eff 6 (.pure 7 (.eff 8 (.pure 9 (.pure 10 (.pure 11 .nil)))))) .nil)) 12 (.eff 2 (.pure 3 (.eff 6 (.pure 7 (.eff 8 (.pure 9 (.pure 10 (.pure 11 .nil)))))))) .nil)))))), (.eff 13 (.pure 14 .nil))⟩
  | 16, 4 => some ⟨some ([], (.pure 1 (.pure 5 (.pure 6 (.pure 7 (.any 0 (.old 4 (.eff 2 (.pure 3 (.eff 8 (.pure 9 (.pure 10 .nil)))))))))))), .nil⟩
  | 59, 3 => some ⟨some ([], (.pure 0 (.pure 1 (.pure 2 (.pure 5 (.pure 6 (.pure 7 (.pure 11 (.any 3 (.old 8 (.pure 9 (.eff 4 (.pure 10 (.pure 12 .nil)))))))))))))), .nil⟩
  | 61, 1 => some ⟨some ([], (.pure 0 (.pure 1 (.pure 2 (.pure 5 (.pure 6 (.pure 7 (.any 3 (.old 8 (.pure 9 (.eff 4 (.eff 10 (.pure 11 .nil))))))))))))), .nil⟩
  | 74, 0 => some ⟨some ([], (.pure 0 (.pure 1 (.pure 2 (.pure 6 (.pure 9 (.pure 10 (.pure 11 (.any 3 (.old 12 (.pure 13 (.eff 4 (.pure 5 (.pure 7 (.eff 8 (.pure 14 (.pure 15 .nil))))))))))))))))), .nil⟩
  | _, _ => none
noncomputable def Γ12 : Env := envN P Wn 60 [12, 13, 14, 15, 16, 18, 40, 43, 44, 45, 46, 58, 63, 64, 65, 66, 67, 76, 77, 78, 79, 80, 90] [] C0 16
theorem Γ12_s : Sound P Γ12 := envN_sound (by kernel_rfl) (by kernel_rfl) C0_s _
def isTrue (r : Option (AV × Hp)) : Bool := match r with
  | some (.bo true, _) => true
  | _ => false
theorem isTrue_spec {r : Option (AV × Hp)} (h : isTrue r = true) : ∃ h', r = some (.bo true, h') := by
  unfold isTrue at h
  split at h
  · exact ⟨_, rfl⟩
  · cases h
set_option maxRecDepth 10000000 in
theorem awake_true : isTrue (Γ12 12 [] []) = true := by kernel_rfl
theorem awake_s : SoundF P 12 (Cconst (.bo true)) := by
  obtain ⟨h', he⟩ := isTrue_spec awake_true
  exact SoundF.const Γ12_s he rfl
end Go.Proofs.YtohaalilplngnaaDoor.ClassRun
