/- RulesNobody: for every input the law answers true, and its arguments read as before. -/
import Derived.Test.YtfnbbgnknkondaaRows
import Derived.Test.YtfnbbgnknkondaaRulesNb
import Derived.Test.YtfnbbgnknkondaaEngV
import Derived.WalkKit
import Derived.ProofKit
import Derived.OpenShut
import Derived.ShutString
import Derived.ChangeOld
import Derived.Below
import Derived.SizedLaws
import Derived.Carry
namespace Go.Proofs.Ytfnbbgnknkondaa.rulesNobody
open Go.ChangeShapes Go.WideShapes Go.ChangeAt Go.RowKit
open Go.ChangeMaps (open_string shut_string)
open Go.Proofs.Ytfnbbgnknkondaa.RulesRun
set_option linter.unusedVariables false
theorem walk (w : World) (a0 : Int) (v1 v2 : Value) (w0 : (Lit.int .i64 a0).wf = true)
    (o1 : ∃ (sd pr : Int) (fs : ByteArray) (fn : Int) (ts : ByteArray) (tn fl fh tl th : Int) (pass : Bool), v1 = .agg #[.int .i64 sd, .int .i64 pr, .string fs, .int .i64 fn, .string ts, .int .i64 tn, .int .i64 fl, .int .i64 fh, .int .i64 tl, .int .i64 th, .bool pass] ∧ (Lit.int .i64 sd).wf = true ∧ (Lit.int .i64 pr).wf = true ∧ (Lit.int .i64 fn).wf = true ∧ (Lit.int .i64 tn).wf = true ∧ (Lit.int .i64 fl).wf = true ∧ (Lit.int .i64 fh).wf = true ∧ (Lit.int .i64 tl).wf = true ∧ (Lit.int .i64 th).wf = true)
    (o2 : ∃ (sd pr : Int) (f t : ByteArray) (fp tp : Int), v2 = .agg #[.int .i64 sd, .int .i64 pr, .string f, .string t, .int .i64 fp, .int .i64 tp] ∧ (Lit.int .i64 sd).wf = true ∧ (Lit.int .i64 pr).wf = true ∧ (Lit.int .i64 fp).wf = true ∧ (Lit.int .i64 tp).wf = true) :
    Calls Try.prog 7 #[.int .i64 a0, v1, v2] w fun e w' => e = .returned (.bool true) ∧ Below w.heap.size w w' := by
  obtain ⟨sd, pr, fs, fn, ts, tn, fl, fh, tl, th, pass, rfl, _⟩ := o1
  obtain ⟨vsd, vpr, f, t, fp, tp, rfl, _⟩ := o2
  exact Eng.wpFn_trueH Γ7_f Γ7_s mo fn7 (run7 a0 ⟨sd, pr, fs, fn, ts, tn, fl, fh, tl, th, pass⟩ ⟨vsd, vpr, f, t, fp, tp⟩) (Eng.HRel.none w (Eng.Glob.nil rfl trivial))
    (vs := [.int .i64 a0, .agg #[.int .i64 sd, .int .i64 pr, .string fs, .int .i64 fn, .string ts, .int .i64 tn, .int .i64 fl, .int .i64 fh, .int .i64 tl, .int .i64 th, .bool pass], .agg #[.int .i64 vsd, .int .i64 vpr, .string f, .string t, .int .i64 fp, .int .i64 tp]])
    ⟨_, _, rfl, rfl, _, _, rfl, ⟨_, rfl, ⟨_, _, rfl, rfl, _, _, rfl, rfl, _, _, rfl, rfl, _, _, rfl, rfl, _, _, rfl, rfl, _, _, rfl, rfl, _, _, rfl, rfl, _, _, rfl, rfl, _, _, rfl, rfl, _, _, rfl, rfl, _, _, rfl, rfl, rfl⟩⟩, _, _, rfl, ⟨_, rfl, ⟨_, _, rfl, rfl, _, _, rfl, rfl, _, _, rfl, rfl, _, _, rfl, rfl, _, _, rfl, rfl, _, _, rfl, rfl, rfl⟩⟩, rfl⟩
theorem laid : laidOutB Try.prog = true := by kernel_rfl
theorem own : ownKnob Try.prog.godebug = none := by kernel_rfl
set_option maxRecDepth 100000 in
theorem lifted (os : Os) (started : os.Started) (H : Type) (enc : TypeId × Value → H) :
    ReturnsInHanded {} Try.checked os 7 .any (Rows.rulesNobodySpec.pre6 enc Try.prog Try.f7 Rows.rulesNobodyRow.domain false) (Rows.rulesNobodySpec.post enc Try.prog Try.f7 false true false false) := by
  refine returnsInHanded_of_change_sized (C := Try.checked) own started (by kernel_rfl) Try.func7
    (ChangeSpec.witness6 (enc := enc) (C := Try.checked) false ⟨#[], #[.int .i64 0, .agg #[.int .i64 0, .int .i64 0, .string ByteArray.empty, .int .i64 0, .string ByteArray.empty, .int .i64 0, .int .i64 0, .int .i64 0, .int .i64 0, .int .i64 0, .bool false], .agg #[.int .i64 0, .int .i64 0, .string ByteArray.empty, .string ByteArray.empty, .int .i64 0, .int .i64 0]], []⟩ 8 (by kernel_rfl) (by kernel_rfl) (by kernel_rfl) (by kernel_rfl)) ?_
  intro W base args ds gs before hval0 hW hcnd hsz0 _
  have hval : ∀ (j : Nat) t v, Try.f7.params[j]? = some t → args[j]? = some v → Value.okWide Try.prog W .any base t v := hval0
  have hW' := hW
  obtain ⟨p, q, hA0, hV, rfl, hfz, hnd⟩ := hW
  have hA : DataW.TrodAll enc Try.prog W 0 (fun _ => true) true Try.f7.params.toList args.toList ds p := hA0
  rw [Try.params7] at hA hval
  have hlt := DataW.TrodAll.lt hA
  obtain ⟨v0, vs0, d0, ds0, p0, q0, hargs, rfl, rfl, h0, r0⟩ := trodAll_cons hA
  obtain ⟨v1, vs1, d1, ds1, p1, q1, rfl, rfl, rfl, h1, r1⟩ := trodAll_cons r0
  obtain ⟨v2, vs2, d2, ds2, p2, q2, rfl, rfl, rfl, h2, r2⟩ := trodAll_cons r1
  obtain ⟨rfl, rfl, rfl⟩ := trodAll_nil r2
  obtain rfl : args = #[v0, v1, v2] := by cases args; simp_all
  obtain ⟨rfl, rfl⟩ := trodVars_none hV
  obtain ⟨a0, rfl, rfl, rfl, w0⟩ := open_int Try.underlying3 (hval 0 3 v0 rfl rfl) h0
  have o1 := RulesRun.arg_rule (w := W) (hval 1 25 v1 rfl rfl) h1
  have o2 := RulesRun.arg_view (w := W) (hval 2 27 v2 rfl rfl) h2
  clear hA0 hval0 hsz0
  refine (walk W a0 v1 v2 w0 o1 o2).mono fun e W' ⟨he, bel⟩ => ?_
  subst he
  exact ⟨_, rfl, _, _, _, [], _, [], hW', trodAll_mk1 (shut_bool Try.underlying4 _), (trodAll_cons_mk (shut_int Try.underlying3 w0) (trodAll_cons_mk (Below.trod laid (by kernel_rfl) (of_decide_eq_true (by kernel_rfl)) h1 bel (fun x hx => hlt x (by simp [hx]))) (trodAll_cons_mk (Below.trod laid (by kernel_rfl) (of_decide_eq_true (by kernel_rfl)) h2 bel (fun x hx => hlt x (by simp [hx]))) trodAll_mk0))), rfl, bel.frame _, fun h => by cases h⟩
theorem over : Rows.rulesNobodyRow.holds Try.pinned (OpenSpec.ofChange Rows.rulesNobodySpec) :=
  OpenClaim.holds_of_wide 7 Try.f7 rfl rfl rfl rfl rfl rfl rfl ⟨rfl, rfl, rfl, rfl, rfl⟩ rfl rfl rfl rfl rfl (by kernel_rfl) Try.func7 (by kernel_rfl)
    (of_decide_eq_true (by kernel_rfl)) (by unfold Func.isWrapper; first | (rw [if_pos (by decide +kernel)]; kernel_rfl) | (rw [if_neg (by decide +kernel)]; exact ⟨rfl, rfl⟩))
    (fun os started H enc _ => lifted os started H enc)
theorem proved : Rows.RulesNobodySaid := over
end Go.Proofs.Ytfnbbgnknkondaa.rulesNobody
namespace Go.Proofs.Ytfnbbgnknkondaa
theorem rulesNobody_holds : Rows.RulesNobodySaid := rulesNobody.proved
end Go.Proofs.Ytfnbbgnknkondaa
