/- ClassKnown: a run over the answers of its calls. -/
import Derived.Test.YtohaalilplngnaaDoorClassLit
namespace Go.Proofs.YtohaalilplngnaaDoor.ClassRun
open Go Go.Proofs.YtohaalilplngnaaDoor.Eng Go.RowKit
noncomputable abbrev C2 : Env := with1 12 (Cconst (.bo true)) (with1 16 (Ctab tab16) (with1 15 (Ctab tab15) (with1 13 (Ctab tab13) (with1 29 (Ctab tab29) (with1 24 (Ctab tab24) noEnv)))))
theorem C2_s : Sound P C2 := with1_sound (fnOkB_ok (by kernel_rfl)) awake_s (with1_sound (fnOkB_ok (by kernel_rfl)) tab16_s (with1_sound (fnOkB_ok (by kernel_rfl)) tab15_s (with1_sound (fnOkB_ok (by kernel_rfl)) tab13_s (with1_sound (fnOkB_ok (by kernel_rfl)) tab29_s (with1_sound (fnOkB_ok (by kernel_rfl)) tab24_s (noEnv_sound _))))))
noncomputable def Γ10 : Env := envN P Wn 60 [10, 25, 26, 50] [] C2 8
theorem Γ10_s : Sound P Γ10 := envN_sound (by kernel_rfl) (by kernel_rfl) C2_s _
set_option maxRecDepth 10000000 in
theorem known_true : isTrue (Γ10 10 [] []) = true := by kernel_rfl
end Go.Proofs.YtohaalilplngnaaDoor.ClassRun
