/- RulesFit: for every input the law answers true, and its arguments read as before. -/
import Derived.Test.YtfnbbgnknkondaaRows
import Derived.Test.YtfnbbgnknkondaaRulesFt
import Derived.Test.YtfnbbgnknkondaaEngV
import Derived.WalkKit
import Derived.ProofKit
import Derived.OpenShut
import Derived.ShutString
import Derived.ChangeOld
import Derived.Below
import Derived.SizedLaws
import Derived.Carry
namespace Go.Proofs.Ytfnbbgnknkondaa.rulesFit
open Go.ChangeShapes Go.WideShapes Go.ChangeAt Go.RowKit
open Go.ChangeMaps (open_string shut_string)
open Go.Proofs.Ytfnbbgnknkondaa.RulesRun
set_option linter.unusedVariables false
theorem walk (w : World) (v1 v2 : Value)
    (o1 : ∃ (sd pr : Int) (fs : ByteArray) (fn : Int) (ts : ByteArray) (tn fl fh tl th : Int) (pass : Bool), v1 = .agg #[.int .i64 sd, .int .i64 pr, .string fs, .int .i64 fn, .string ts, .int .i64 tn, .int .i64 fl, .int .i64 fh, .int .i64 tl, .int .i64 th, .bool pass] ∧ (Lit.int .i64 sd).wf = true ∧ (Lit.int .i64 pr).wf = true ∧ (Lit.int .i64 fn).wf = true ∧ (Lit.int .i64 tn).wf = true ∧ (Lit.int .i64 fl).wf = true ∧ (Lit.int .i64 fh).wf = true ∧ (Lit.int .i64 tl).wf = true ∧ (Lit.int .i64 th).wf = true)
    (o2 : ∃ (sd pr : Int) (f t : ByteArray) (fp tp : Int), v2 = .agg #[.int .i64 sd, .int .i64 pr, .string f, .string t, .int .i64 fp, .int .i64 tp] ∧ (Lit.int .i64 sd).wf = true ∧ (Lit.int .i64 pr).wf = true ∧ (Lit.int .i64 fp).wf = true ∧ (Lit.int .i64 tp).wf = true) :
    Calls Try.prog 3 #[v1, v2] w fun e w' => e = .returned (.bool true) ∧ Below w.heap.size w w' := by
  obtain ⟨sd, pr, fs, fn, ts, tn, fl, fh, tl, th, pass, rfl, _⟩ := o1
  obtain ⟨vsd, vpr, f, t, fp, tp, rfl, _⟩ := o2
  exact Eng.wpFn_trueH Γ3_f Γ3_s mo fn3 (run3 ⟨sd, pr, fs, fn, ts, tn, fl, fh, tl, th, pass⟩ ⟨vsd, vpr, f, t, fp, tp⟩) (Eng.HRel.none w (Eng.Glob.nil rfl trivial))
    (vs := [.agg #[.int .i64 sd, .int .i64 pr, .string fs, .int .i64 fn, .string ts, .int .i64 tn, .int .i64 fl, .int .i64 fh, .int .i64 tl, .int .i64 th, .bool pass], .agg #[.int .i64 vsd, .int .i64 vpr, .string f, .string t, .int .i64 fp, .int .i64 tp]])
    ⟨_, _, rfl, ⟨_, rfl, ⟨_, _, rfl, rfl, _, _, rfl, rfl, _, _, rfl, rfl, _, _, rfl, rfl, _, _, rfl, rfl, _, _, rfl, rfl, _, _, rfl, rfl, _, _, rfl, rfl, _, _, rfl, rfl, _, _, rfl, rfl, _, _, rfl, rfl, rfl⟩⟩, _, _, rfl, ⟨_, rfl, ⟨_, _, rfl, rfl, _, _, rfl, rfl, _, _, rfl, rfl, _, _, rfl, rfl, _, _, rfl, rfl, _, _, rfl, rfl, rfl⟩⟩, rfl⟩
theorem laid : laidOutB Try.prog = true := by kernel_rfl
theorem own : ownKnob Try.prog.godebug = none := by kernel_rfl
set_option maxRecDepth 100000 in
theorem lifted (os : Os) (started : os.Started) (H : Type) (enc : TypeId × Value → H) :
    ReturnsInHanded {} Try.checked os 3 .any (Rows.rulesFitSpec.pre6 enc Try.prog Try.f3 Rows.rulesFitRow.domain false) (Rows.rulesFitSpec.post enc Try.prog Try.f3 false true false false) := by
  refine returnsInHanded_of_change_sized (C := Try.checked) own started (by kernel_rfl) Try.func3
    (ChangeSpec.witness6 (enc := enc) (C := Try.checked) false ⟨#[], #[.agg #[.int .i64 0, .int .i64 0, .string ByteArray.empty, .int .i64 0, .string ByteArray.empty, .int .i64 0, .int .i64 0, .int .i64 0, .int .i64 0, .int .i64 0, .bool false], .agg #[.int .i64 0, .int .i64 0, .string ByteArray.empty, .string ByteArray.empty, .int .i64 0, .int .i64 0]], []⟩ 8 (by kernel_rfl) (by kernel_rfl) (by kernel_rfl) (by kernel_rfl)) ?_
  intro W base args ds gs before hval0 hW hcnd hsz0 _
  have hval : ∀ (j : Nat) t v, Try.f3.params[j]? = some t → args[j]? = some v → Value.okWide Try.prog W .any base t v := hval0
  have hW' := hW
  obtain ⟨p, q, hA0, hV, rfl, hfz, hnd⟩ := hW
  have hA : DataW.TrodAll enc Try.prog W 0 (fun _ => true) true Try.f3.params.toList args.toList ds p := hA0
  rw [Try.params3] at hA hval
  have hlt := DataW.TrodAll.lt hA
  obtain ⟨v0, vs0, d0, ds0, p0, q0, hargs, rfl, rfl, h0, r0⟩ := trodAll_cons hA
  obtain ⟨v1, vs1, d1, ds1, p1, q1, rfl, rfl, rfl, h1, r1⟩ := trodAll_cons r0
  obtain ⟨rfl, rfl, rfl⟩ := trodAll_nil r1
  obtain rfl : args = #[v0, v1] := by cases args; simp_all
  obtain ⟨rfl, rfl⟩ := trodVars_none hV
  have o0 := RulesRun.arg_rule (w := W) (hval 0 25 v0 rfl rfl) h0
  have o1 := RulesRun.arg_view (w := W) (hval 1 27 v1 rfl rfl) h1
  clear hA0 hval0 hsz0
  refine (walk W v0 v1  o0 o1).mono fun e W' ⟨he, bel⟩ => ?_
  subst he
  exact ⟨_, rfl, _, _, _, [], _, [], hW', trodAll_mk1 (shut_bool Try.underlying4 _), (trodAll_cons_mk (Below.trod laid (by kernel_rfl) (of_decide_eq_true (by kernel_rfl)) h0 bel (fun x hx => hlt x (by simp [hx]))) (trodAll_cons_mk (Below.trod laid (by kernel_rfl) (of_decide_eq_true (by kernel_rfl)) h1 bel (fun x hx => hlt x (by simp [hx]))) trodAll_mk0)), rfl, bel.frame _, fun h => by cases h⟩
theorem over : Rows.rulesFitRow.holds Try.pinned (OpenSpec.ofChange Rows.rulesFitSpec) :=
  OpenClaim.holds_of_wide 3 Try.f3 rfl rfl rfl rfl rfl rfl rfl ⟨rfl, rfl, rfl, rfl, rfl⟩ rfl rfl rfl rfl rfl (by kernel_rfl) Try.func3 (by kernel_rfl)
    (of_decide_eq_true (by kernel_rfl)) (by unfold Func.isWrapper; first | (rw [if_pos (by decide +kernel)]; kernel_rfl) | (rw [if_neg (by decide +kernel)]; exact ⟨rfl, rfl⟩))
    (fun os started H enc _ => lifted os started H enc)
theorem proved : Rows.RulesFitSaid := over
end Go.Proofs.Ytfnbbgnknkondaa.rulesFit
namespace Go.Proofs.Ytfnbbgnknkondaa
theorem rulesFit_holds : Rows.RulesFitSaid := rulesFit.proved
end Go.Proofs.Ytfnbbgnknkondaa
