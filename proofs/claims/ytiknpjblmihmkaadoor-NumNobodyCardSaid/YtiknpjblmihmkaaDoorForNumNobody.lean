/- NumNobody: for every input the law answers true, and its arguments read as before: the row, and its card, tied to the program's text. -/
import Derived.Test.YtiknpjblmihmkaaDoorRows
import Derived.Test.YtiknpjblmihmkaaDoorCards
import Derived.Test.YtiknpjblmihmkaaDoorTie
import Derived.Test.YtiknpjblmihmkaaDoorNumNob
import Derived.Test.YtiknpjblmihmkaaDoorNumDoor
import Derived.Test.YtiknpjblmihmkaaDoorEngV
import Derived.WalkKit
import Derived.ProofKit
import Derived.OpenShut
import Derived.ShutString
import Derived.ChangeOld
import Derived.Below
import Derived.SizedLaws
import Derived.Carry
import Derived.SevenTiedAt
namespace Go.Proofs.YtiknpjblmihmkaaDoor.numNobody
open Go.ChangeShapes Go.WideShapes Go.ChangeAt Go.RowKit
open Go.ChangeMaps (open_string shut_string)
open Go.Proofs.YtiknpjblmihmkaaDoor.NumRun
set_option linter.unusedVariables false
theorem walk (w : World) (hG : Eng.Glob (w.heap.size ≤ ·) w) (a0 : Int) (w0 : (Lit.int .i64 a0).wf = true) : Calls Tryd.prog 7 #[.int .i64 a0] w fun e w' => e = .returned (.bool true) ∧ Below w.heap.size w w' := by
  obtain ⟨h', he⟩ := NumRun.isTrue_spec (NumRun.nobody_true a0)
  refine (Eng.calls_nothing NumRun.Γ7_s (vs := [.int .i64 a0]) he ⟨_, _, rfl, rfl, rfl⟩ w (hf := Eng.fnOkB_ok (by kernel_rfl)) (hG := hG)).mono fun e w' hp => ?_
  obtain ⟨σ, z, h1, h2, h3, h4⟩ := hp
  cases h3
  exact ⟨h1, h4⟩
theorem laidOut : laidOutB Tryd.prog = true := by kernel_rfl
set_option maxRecDepth 100000 in
theorem lifted (os : Os) (started : os.Started) (H : Type) (enc : TypeId × Value → H) :
    ReturnsInHanded {} Tryd.checked os 7 .any (fun w args => (Rows.numNobodySpec.pre enc Tryd.prog Tryd.f7 [] false w args ∧ laidMetH Tryd.prog NumDoor.laid4 w) ∧ sizedMet enc Tryd.prog Tryd.f7 (OpenSpec.ofChange Rows.numNobodySpec) false w args)
      (Rows.numNobodySpec.post enc Tryd.prog Tryd.f7 false true false false) := by
  refine returnsInHanded_of_change_and (C := Tryd.checked) (X := fun w _ => laidMetH Tryd.prog NumDoor.laid4 w) (fun _ _ _ hh h => h.of_heap hh) NumDoor.own started (by kernel_rfl) Tryd.func7
    (ChangeSpec.witness_shaped (enc := enc) (C := Tryd.checked) (os := os) (X := fun w _ => laidMetH Tryd.prog NumDoor.laid4 w) false (NumDoor.door os) #[.int .i64 0] 8 rfl (NumDoor.shaped os _) (by kernel_rfl) (by kernel_rfl) (by kernel_rfl) (NumDoor.met4 os _)) ?_
  intro W base args ds gs before hval0 hW _ _ hL _
  have hval : ∀ (j : Nat) t v, Tryd.f7.params[j]? = some t → args[j]? = some v → Value.okWide Tryd.prog W .any base t v := hval0
  have hW' := hW
  obtain ⟨p, q, hA0, hV, rfl, hfz, hnd⟩ := hW
  have hA : DataW.TrodAll enc Tryd.prog W 0 (fun _ => true) true Tryd.f7.params.toList args.toList ds p := hA0
  rw [Tryd.params7] at hA hval
  have hG := NumDoor.start (NumDoor.of4 hL)
  have hlt := DataW.TrodAll.lt hA
  obtain ⟨v0, vs0, d0, ds0, p0, q0, hargs, rfl, rfl, h0, r0⟩ := trodAll_cons hA
  obtain ⟨rfl, rfl, rfl⟩ := trodAll_nil r0
  obtain rfl : args = #[v0] := by cases args; simp_all
  obtain ⟨rfl, rfl⟩ := trodVars_none hV
  obtain ⟨a0, rfl, rfl, rfl, w0⟩ := open_int Tryd.underlying3 (hval 0 3 v0 rfl rfl) h0
  clear hA0 hval0
  refine (walk W hG a0 w0).mono fun e W' ⟨he, bel⟩ => ?_
  subst he
  exact ⟨_, rfl, _, _, _, [], _, [], hW', trodAll_mk1 (shut_bool Tryd.underlying4 _), (trodAll_cons_mk (shut_int Tryd.underlying3 w0) trodAll_mk0), rfl, bel.frame _, fun h => by cases h⟩
theorem over : Rows.numNobodyRow.holds Tryd.pinned (OpenSpec.ofChange Rows.numNobodySpec) :=
  OpenClaim.holds_of_wide 7 Tryd.f7 rfl rfl rfl rfl rfl rfl rfl ⟨rfl, rfl, rfl, rfl, rfl⟩ rfl rfl rfl rfl rfl (by kernel_rfl) Tryd.func7 (by kernel_rfl)
    (of_decide_eq_true (by kernel_rfl)) (by unfold Func.isWrapper; first | (rw [if_pos (by decide +kernel)]; kernel_rfl) | (rw [if_neg (by decide +kernel)]; exact ⟨rfl, rfl⟩))
    (fun os started H enc _ => lifted os started H enc)
theorem proved : Rows.NumNobodyCardSaid :=
  Claim7.holds_tied_plain_at .later [] [.data, .data, .data, .handle] true (true, "40389b2eb7f87f96a25da4e5f9522961b3ff235e978f7a7d929a843fb179a07b") true
    over (fun _ h => by cases h) (by kernel_rfl) (fun _ h => by cases h) numNobody_row_tie rfl ⟨rfl, rfl⟩ (by kernel_rfl) rfl
    (fun f fn hf hfn => by
      obtain rfl : f = 7 := Option.some.inj ((show Tryd.prog.funcNamed "interpreter/interpreterlaw01.NumNobody" = some 7 by kernel_rfl).symm.trans hf) |>.symm
      obtain rfl : fn = Tryd.f7 := (Option.some.inj (Tryd.func7.symm.trans hfn)).symm
      exact ⟨by kernel_rfl, fun j t ht => by
        have hall : (Tryd.f7.params.toList.all fun u => !Tryd.prog.wantsStandIn u) = true := by kernel_rfl
        have hm : t ∈ Tryd.f7.params.toList := by simpa using Array.mem_of_getElem? ht
        exact (show Tryd.prog.wantsStandIn t = false by simpa using List.all_eq_true.1 hall t hm)⟩)
    (by kernel_rfl)
end Go.Proofs.YtiknpjblmihmkaaDoor.numNobody
namespace Go.Proofs.YtiknpjblmihmkaaDoor
theorem numNobody_holds : Rows.NumNobodyCardSaid := numNobody.proved
end Go.Proofs.YtiknpjblmihmkaaDoor
