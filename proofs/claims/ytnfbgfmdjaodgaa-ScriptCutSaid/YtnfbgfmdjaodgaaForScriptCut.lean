/- ScriptCut: for every input the law answers true, and its arguments read as before. -/
import Derived.Test.YtnfbgfmdjaodgaaRows
import Derived.Test.YtnfbgfmdjaodgaaScriptCu
import Derived.Test.YtnfbgfmdjaodgaaScriptArgs
import Derived.Test.YtnfbgfmdjaodgaaEngV
import Derived.WalkKit
import Derived.ProofKit
import Derived.OpenShut
import Derived.ShutString
import Derived.ChangeOld
import Derived.Below
import Derived.SizedLaws
import Derived.Carry
namespace Go.Proofs.Ytnfbgfmdjaodgaa.scriptCut
open Go.ChangeShapes Go.WideShapes Go.ChangeAt Go.RowKit
open Go.ChangeMaps (open_string shut_string)
open Go.Proofs.Ytnfbgfmdjaodgaa.ScriptRun
set_option linter.unusedVariables false
theorem ok7 : Eng.fnOk1 P noW 7 Go.Proofs.Try.f7 := ⟨Go.Proofs.Try.func7, by kernel_rfl, by kernel_rfl, by kernel_rfl⟩
set_option maxRecDepth 100000 in
theorem walk (w : World) (v0 : Value) (a1 : Int) (w1 : (Lit.int .i64 a1).wf = true) (o0 : v0 = .slice none 0 0 ∨ ∃ (len : Nat) (xs : List Ev) (l : Eng.Loc), Eng.InRecs w v0 (Eng.recs mkEv xs) len 3 xs.length l ∧ (∀ x ∈ xs, True) ∧ xs.length ≤ maxLen) :
    Calls Try.prog 7 #[v0, .int .i64 a1] w fun e w' => e = .returned (.bool true) ∧ Below w.heap.size w w' := by
  rcases o0 with rfl | ⟨len, xs, l, hin, _, hm⟩
  · exact Eng.wpFn_trueH EL_f EL_s mo ok7 (k := 0) (args := [.sn, .i .i64 a1]) (h := []) ⟨run7n (R := fun v _ => v = .bo true) fun _ => rfl⟩ (Eng.HRel.none w) (vs := [.slice none 0 0, .int .i64 a1]) ⟨_, _, rfl, rfl, _, _, rfl, rfl, rfl⟩
  · have hlen : (xs.take len).length = len := by have := hin.le; rw [List.length_take]; omega
    have hx : xs.take (xs.take len).length = xs.take len := by rw [hlen]
    have hv := hin.val [l] 0 rfl
    rw [← hlen] at hv
    exact Eng.wpFn_trueH EL_f EL_s mo ok7 (k := 1) ⟨run7 (cap := xs.length) hx (by rw [hlen]; exact hin.le) hm (R := fun v _ => v = .bo true) fun _ => rfl⟩ hin.one (vs := [v0, .int .i64 a1]) ⟨_, _, rfl, hv, _, _, rfl, rfl, rfl⟩
theorem laid : laidOutB Try.prog = true := by kernel_rfl
theorem own : ownKnob Try.prog.godebug = none := by kernel_rfl
set_option maxRecDepth 100000 in
theorem lifted (os : Os) (started : os.Started) (H : Type) (enc : TypeId × Value → H) :
    ReturnsInHanded {} Try.checked os 7 .any (Rows.scriptCutSpec.pre6 enc Try.prog Try.f7 Rows.scriptCutRow.domain false) (Rows.scriptCutSpec.post enc Try.prog Try.f7 false true false false) := by
  refine returnsInHanded_of_change_sized (C := Try.checked) own started (by kernel_rfl) Try.func7
    (ChangeSpec.witness6 (enc := enc) (C := Try.checked) false ⟨#[], #[.slice none 0 0, .int .i64 0], []⟩ 8 (by kernel_rfl) (by kernel_rfl) (by kernel_rfl) (by kernel_rfl)) ?_
  intro W base args ds gs before hval0 hW hcnd hsz0 _
  have hval : ∀ (j : Nat) t v, Try.f7.params[j]? = some t → args[j]? = some v → Value.okWide Try.prog W .any base t v := hval0
  have hW' := hW
  obtain ⟨p, q, hA0, hV, rfl, hfz, hnd⟩ := hW
  have hA : DataW.TrodAll enc Try.prog W 0 (fun _ => true) true Try.f7.params.toList args.toList ds p := hA0
  rw [Try.params7] at hA hval
  have hlt := DataW.TrodAll.lt hA
  obtain ⟨v0, vs0, d0, ds0, p0, q0, hargs, rfl, rfl, h0, r0⟩ := trodAll_cons hA
  obtain ⟨v1, vs1, d1, ds1, p1, q1, rfl, rfl, rfl, h1, r1⟩ := trodAll_cons r0
  obtain ⟨rfl, rfl, rfl⟩ := trodAll_nil r1
  obtain rfl : args = #[v0, v1] := by cases args; simp_all
  obtain ⟨rfl, rfl⟩ := trodVars_none hV
  have o0 := Eng.arg_recs (w := W) mkEv_len (by decide) (fun _ => rfl) unE_rel Go.Proofs.Try.underlying24 (by kernel_rfl) el_ev (hval 0 24 v0 rfl rfl) h0
  obtain ⟨a1, rfl, rfl, rfl, w1⟩ := open_int Try.underlying3 (hval 1 3 v1 rfl rfl) h1
  clear hA0 hval0 hsz0
  refine (walk W v0 a1 w1 o0).mono fun e W' ⟨he, bel⟩ => ?_
  subst he
  exact ⟨_, rfl, _, _, _, [], _, [], hW', trodAll_mk1 (shut_bool Try.underlying4 _), (trodAll_cons_mk (Below.trod laid (by kernel_rfl) (of_decide_eq_true (by kernel_rfl)) h0 bel (fun x hx => hlt x (by simp [hx]))) (trodAll_cons_mk (shut_int Try.underlying3 w1) trodAll_mk0)), rfl, bel.frame _, fun h => by cases h⟩
theorem over : Rows.scriptCutRow.holds Try.pinned (OpenSpec.ofChange Rows.scriptCutSpec) :=
  OpenClaim.holds_of_wide 7 Try.f7 rfl rfl rfl rfl rfl rfl rfl ⟨rfl, rfl, rfl, rfl, rfl⟩ rfl rfl rfl rfl rfl (by kernel_rfl) Try.func7 (by kernel_rfl)
    (of_decide_eq_true (by kernel_rfl)) (by unfold Func.isWrapper; first | (rw [if_pos (by decide +kernel)]; kernel_rfl) | (rw [if_neg (by decide +kernel)]; exact ⟨rfl, rfl⟩))
    (fun os started H enc _ => lifted os started H enc)
theorem proved : Rows.ScriptCutSaid := over
end Go.Proofs.Ytnfbgfmdjaodgaa.scriptCut
namespace Go.Proofs.Ytnfbgfmdjaodgaa
theorem scriptCut_holds : Rows.ScriptCutSaid := scriptCut.proved
end Go.Proofs.Ytnfbgfmdjaodgaa
