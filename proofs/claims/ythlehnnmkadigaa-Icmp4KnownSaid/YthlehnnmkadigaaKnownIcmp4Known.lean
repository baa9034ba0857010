/- Icmp4Known, a closed statement: by a run without addresses, which the kernel carries out. -/
import Derived.Test.YthlehnnmkadigaaRows
import Derived.Test.YthlehnnmkadigaaEngO
import Derived.WalkKit
import Derived.ProofKit
import Derived.OpenShut
import Derived.ShutString
import Derived.ChangeOld
import Derived.Below
import Derived.SizedLaws
namespace Go.Proofs.Ythlehnnmkadigaa.icmp4Known
open Go.ChangeShapes Go.WideShapes Go.ChangeAt Go.RowKit
open Go.Proofs.Ythlehnnmkadigaa.Eng
set_option linter.unusedVariables false
def W : FuncId → Nat → Option Eng.Road
  | 13, 3 => some ⟨some (.pure 0 (.pure 1 (.pure 2 (.pure 3 (.pure 4 (.pure 5 (.pure 6 (.old 7 (.eff 8 (.pure 9 (.pure 10 (.pure 11 (.pure 12 (.pure 13 (.pure 14 (.pure 15 .nil)))))))))))))))), .nil⟩
  | 19, 3 => some ⟨some (.pure 0 (.pure 1 (.pure 2 (.pure 3 (.pure 4 (.pure 5 (.pure 6 (.old 7 (.eff 8 (.pure 9 (.pure 10 (.pure 11 (.pure 12 (.pure 13 (.pure 14 (.pure 15 .nil)))))))))))))))), .nil⟩
  | 9, 12 => some ⟨some (.pure 0 (.pure 1 (.pure 2 (.pure 3 (.pure 4 (.pure 6 (.any 5 (.old 8 (.eff 7 (.pure 9 (.pure 10 (.pure 11 (.any 12 (.eff 13 (.pure 14 (.pure 15 (.pure 16 .nil))))))))))))))))), .nil⟩
  | 12, 12 => some ⟨some (.pure 0 (.pure 1 (.pure 2 (.pure 3 (.pure 4 (.pure 6 (.any 5 (.old 8 (.eff 7 (.pure 9 (.pure 10 (.pure 11 (.any 12 (.eff 13 (.pure 14 (.pure 15 (.pure 16 .nil))))))))))))))))), .nil⟩
  | 8, 7 => some ⟨some (.pure 0 (.pure 1 (.pure 2 (.pure 3 (.pure 4 (.pure 5 (.pure 6 (.pure 7 (.pure 8 (.pure 9 (.pure 10 (.pure 11 (.pure 12 (.pure 13 (.pure 15 (.pure 18 (.any 14 (.old 17 (.eff 16 (.eff 19 (.pure 20 (.pure 21 (.pure 22 (.any 23 (.old 25 (.eff 24 (.eff 26 (.pure 27 (.pure 28 (.pure 29 .nil)))))))))))))))))))))))))))))), .nil⟩
  | 11, 7 => some ⟨some (.pure 0 (.pure 1 (.pure 2 (.pure 3 (.pure 4 (.pure 5 (.pure 6 (.pure 7 (.pure 8 (.pure 9 (.pure 10 (.pure 11 (.pure 12 (.pure 13 (.pure 15 (.pure 18 (.any 14 (.old 17 (.eff 16 (.eff 19 (.pure 20 (.pure 21 (.pure 22 (.any 23 (.old 25 (.eff 24 (.eff 26 (.pure 27 (.pure 28 (.pure 29 .nil)))))))))))))))))))))))))))))), .nil⟩
  | _, _ => none
def L : List FuncId := [10, 13, 14, 16, 18, 32, 33, 34, 35, 39, 40, 42, 43, 44, 45, 48, 49, 51, 52]
noncomputable def Γ : Eng.Env := envN Try.prog W 3000 L [] noEnv 10
theorem Γ_sound : Eng.Sound Try.prog Γ := envN_sound (by kernel_rfl) (by kernel_rfl) (noEnv_sound _) _
def isTrue (r : Option (Eng.AV × Eng.Hp)) : Bool := match r with
  | some (.bo true, _) => true
  | _ => false
theorem isTrue_spec {r : Option (Eng.AV × Eng.Hp)} (h : isTrue r = true) : ∃ h', r = some (.bo true, h') := by
  unfold isTrue at h
  split at h
  · exact ⟨_, rfl⟩
  · cases h
theorem answers : isTrue (Γ 10 [] []) = true := by kernel_rfl
theorem walk (w : World) : Calls Try.prog 10 #[] w fun e w' => e = .returned (.bool true) ∧ Below w.heap.size w w' := by
  obtain ⟨h', he⟩ := isTrue_spec answers
  refine (calls_nothing Γ_sound (vs := []) he rfl w).mono fun e w' hp => ?_
  obtain ⟨σ, z, h1, h2, h3, h4⟩ := hp
  cases h3
  exact ⟨h1, h4⟩
theorem own : ownKnob Try.prog.godebug = none := by kernel_rfl
set_option maxRecDepth 100000 in
theorem lifted (os : Os) (started : os.Started) (H : Type) (enc : TypeId × Value → H) :
    ReturnsInHanded {} Try.checked os 10 .any (Rows.icmp4KnownSpec.pre6 enc Try.prog Try.f10 Rows.icmp4KnownRow.domain false) (Rows.icmp4KnownSpec.post enc Try.prog Try.f10 false true false false) := by
  refine returnsInHanded_of_change_sized (C := Try.checked) own started (by kernel_rfl) Try.func10
    (ChangeSpec.witness6 (enc := enc) (C := Try.checked) false ⟨#[], #[], []⟩ 8 (by kernel_rfl) (by kernel_rfl) (by kernel_rfl) (by kernel_rfl)) ?_
  intro W base args ds gs before hval0 hW hcnd hsz0 _
  have hW' := hW
  obtain ⟨p, q, hA0, hV, rfl, hfz, hnd⟩ := hW
  have hA : DataW.TrodAll enc Try.prog W 0 (fun _ => true) true Try.f10.params.toList args.toList ds p := hA0
  rw [Try.params10] at hA
  obtain ⟨hnil, rfl, rfl⟩ := trodAll_nil hA
  obtain rfl : args = #[] := by cases args; simp_all
  obtain ⟨rfl, rfl⟩ := trodVars_none hV
  refine (walk W).mono fun e W' ⟨he, bel⟩ => ?_
  subst he
  exact ⟨_, rfl, _, _, _, [], _, [], hW', trodAll_mk1 (shut_bool Try.underlying4 _), trodAll_mk0, rfl, bel.frame _, fun h => by cases h⟩
theorem over : Rows.icmp4KnownRow.holds Try.pinned (OpenSpec.ofChange Rows.icmp4KnownSpec) :=
  OpenClaim.holds_of_wide 10 Try.f10 rfl rfl rfl rfl rfl rfl rfl ⟨rfl, rfl, rfl, rfl, rfl⟩ rfl rfl rfl rfl rfl (by kernel_rfl) Try.func10 (by kernel_rfl)
    (of_decide_eq_true (by kernel_rfl)) (by unfold Func.isWrapper; first | (rw [if_pos (by decide +kernel)]; kernel_rfl) | (rw [if_neg (by decide +kernel)]; exact ⟨rfl, rfl⟩))
    (fun os started H enc _ => lifted os started H enc)
theorem proved : Rows.Icmp4KnownSaid := over
end Go.Proofs.Ythlehnnmkadigaa.icmp4Known
namespace Go.Proofs.Ythlehnnmkadigaa
theorem icmp4Known_holds : Rows.Icmp4KnownSaid := icmp4Known.proved
end Go.Proofs.Ythlehnnmkadigaa
