/- SumHeads: for every input the law answers true, and its arguments read as before. -/
import Derived.Test.YtjekkpnmpcpgaaaRows
import Derived.Test.YtjekkpnmpcpgaaaSumHeads
import Derived.Test.YtjekkpnmpcpgaaaEngV
import Derived.WalkKit
import Derived.ProofKit
import Derived.OpenShut
import Derived.ShutString
import Derived.ChangeOld
import Derived.Below
import Derived.SizedLaws
import Derived.Carry
namespace Go.Proofs.Ytjekkpnmpcpgaaa.sumHeads
open Go.ChangeShapes Go.WideShapes Go.ChangeAt Go.RowKit
open Go.ChangeMaps (open_string shut_string)
open Go.Proofs.Ytjekkpnmpcpgaaa.SumRun
set_option linter.unusedVariables false
theorem rng64 {n : Int} (h : (Lit.int .i64 n).wf = true) : ok64 n := by
  have : -9223372036854775808 ≤ n ∧ n ≤ 9223372036854775807 := by simpa [Lit.wf, IntKind.min, IntKind.max, IntKind.signed, IntKind.bits] using h
  exact this
theorem walk (w : World) (v0 v1 v2 v3 : Value) (a4 a5 : Int) (w4 : (Lit.int .i64 a4).wf = true) (w5 : (Lit.int .i64 a5).wf = true)
    (o0 : ∃ l : List Int, l.length = 4 ∧ v0 = .agg (l.map (Value.int .u8)).toArray ∧ ∀ x ∈ l, (Lit.int .u8 x).wf = true) (o1 : ∃ l : List Int, l.length = 4 ∧ v1 = .agg (l.map (Value.int .u8)).toArray ∧ ∀ x ∈ l, (Lit.int .u8 x).wf = true)
    (o2 : ∃ l : List Int, l.length = 16 ∧ v2 = .agg (l.map (Value.int .u8)).toArray ∧ ∀ x ∈ l, (Lit.int .u8 x).wf = true) (o3 : ∃ l : List Int, l.length = 16 ∧ v3 = .agg (l.map (Value.int .u8)).toArray ∧ ∀ x ∈ l, (Lit.int .u8 x).wf = true) :
    Calls Try.prog 10 #[v0, v1, v2, v3, .int .i64 a4, .int .i64 a5] w fun e w' => e = .returned (.bool true) ∧ Below w.heap.size w w' := by
  obtain ⟨A, hA, rfl, _⟩ := o0
  obtain ⟨B, hB, rfl, _⟩ := o1
  obtain ⟨C, hC, rfl, _⟩ := o2
  obtain ⟨D, hD, rfl, _⟩ := o3
  obtain ⟨x0, x1, x2, x3, rfl⟩ := four hA
  obtain ⟨b0, b1, b2, b3, rfl⟩ := four hB
  obtain ⟨c0, c1, c2, c3, c4, c5, c6, c7, c8, c9, c10, c11, c12, c13, c14, c15, rfl⟩ := sixteen hC
  obtain ⟨d0, d1, d2, d3, d4, d5, d6, d7, d8, d9, d10, d11, d12, d13, d14, d15, rfl⟩ := sixteen hD
  exact Eng.wpFn_trueH GH_f GH_s mo ok10 (run10 x0 x1 x2 x3 b0 b1 b2 b3 c0 c1 c2 c3 c4 c5 c6 c7 c8 c9 c10 c11 c12 c13 c14 c15 d0 d1 d2 d3 d4 d5 d6 d7 d8 d9 d10 d11 d12 d13 d14 d15 a4 a5 (rng64 w4) (rng64 w5)) (Eng.HRel.none w) (vs := [.agg _, .agg _, .agg _, .agg _, .int .i64 a4, .int .i64 a5])
    ⟨_, _, rfl, ⟨_, rfl, Eng.ints_rel .u8 [x0, x1, x2, x3]⟩, _, _, rfl, ⟨_, rfl, Eng.ints_rel .u8 [b0, b1, b2, b3]⟩, _, _, rfl, ⟨_, rfl, Eng.ints_rel .u8 [c0, c1, c2, c3, c4, c5, c6, c7, c8, c9, c10, c11, c12, c13, c14, c15]⟩, _, _, rfl, ⟨_, rfl, Eng.ints_rel .u8 [d0, d1, d2, d3, d4, d5, d6, d7, d8, d9, d10, d11, d12, d13, d14, d15]⟩, _, _, rfl, rfl, _, _, rfl, rfl, rfl⟩
theorem laid : laidOutB Try.prog = true := by kernel_rfl
theorem own : ownKnob Try.prog.godebug = none := by kernel_rfl
set_option maxRecDepth 100000 in
theorem lifted (os : Os) (started : os.Started) (H : Type) (enc : TypeId × Value → H) :
    ReturnsInHanded {} Try.checked os 10 .any (Rows.sumHeadsSpec.pre6 enc Try.prog Try.f10 Rows.sumHeadsRow.domain false) (Rows.sumHeadsSpec.post enc Try.prog Try.f10 false true false false) := by
  refine returnsInHanded_of_change_sized (C := Try.checked) own started (by kernel_rfl) Try.func10
    (ChangeSpec.witness6 (enc := enc) (C := Try.checked) false ⟨#[], #[.agg #[.int .u8 0, .int .u8 0, .int .u8 0, .int .u8 0], .agg #[.int .u8 0, .int .u8 0, .int .u8 0, .int .u8 0], .agg #[.int .u8 0, .int .u8 0, .int .u8 0, .int .u8 0, .int .u8 0, .int .u8 0, .int .u8 0, .int .u8 0, .int .u8 0, .int .u8 0, .int .u8 0, .int .u8 0, .int .u8 0, .int .u8 0, .int .u8 0, .int .u8 0], .agg #[.int .u8 0, .int .u8 0, .int .u8 0, .int .u8 0, .int .u8 0, .int .u8 0, .int .u8 0, .int .u8 0, .int .u8 0, .int .u8 0, .int .u8 0, .int .u8 0, .int .u8 0, .int .u8 0, .int .u8 0, .int .u8 0], .int .i64 0, .int .i64 0], []⟩ 8 (by kernel_rfl) (by kernel_rfl) (by kernel_rfl) (by kernel_rfl)) ?_
  intro W base args ds gs before hval0 hW hcnd hsz0 _
  have hval : ∀ (j : Nat) t v, Try.f10.params[j]? = some t → args[j]? = some v → Value.okWide Try.prog W .any base t v := hval0
  have hW' := hW
  obtain ⟨p, q, hA0, hV, rfl, hfz, hnd⟩ := hW
  have hA : DataW.TrodAll enc Try.prog W 0 (fun _ => true) true Try.f10.params.toList args.toList ds p := hA0
  rw [Try.params10] at hA hval
  have hlt := DataW.TrodAll.lt hA
  obtain ⟨v0, vs0, d0, ds0, p0, q0, hargs, rfl, rfl, h0, r0⟩ := trodAll_cons hA
  obtain ⟨v1, vs1, d1, ds1, p1, q1, rfl, rfl, rfl, h1, r1⟩ := trodAll_cons r0
  obtain ⟨v2, vs2, d2, ds2, p2, q2, rfl, rfl, rfl, h2, r2⟩ := trodAll_cons r1
  obtain ⟨v3, vs3, d3, ds3, p3, q3, rfl, rfl, rfl, h3, r3⟩ := trodAll_cons r2
  obtain ⟨v4, vs4, d4, ds4, p4, q4, rfl, rfl, rfl, h4, r4⟩ := trodAll_cons r3
  obtain ⟨v5, vs5, d5, ds5, p5, q5, rfl, rfl, rfl, h5, r5⟩ := trodAll_cons r4
  obtain ⟨rfl, rfl, rfl⟩ := trodAll_nil r5
  obtain rfl : args = #[v0, v1, v2, v3, v4, v5] := by cases args; simp_all
  obtain ⟨rfl, rfl⟩ := trodVars_none hV
  have o0 := Eng.arg_array (w := W) Try.underlying41 Try.underlying5 (by kernel_rfl) (by kernel_rfl) (hval 0 41 v0 rfl rfl) h0
  have o1 := Eng.arg_array (w := W) Try.underlying41 Try.underlying5 (by kernel_rfl) (by kernel_rfl) (hval 1 41 v1 rfl rfl) h1
  have o2 := Eng.arg_array (w := W) Try.underlying43 Try.underlying5 (by kernel_rfl) (by kernel_rfl) (hval 2 43 v2 rfl rfl) h2
  have o3 := Eng.arg_array (w := W) Try.underlying43 Try.underlying5 (by kernel_rfl) (by kernel_rfl) (hval 3 43 v3 rfl rfl) h3
  obtain ⟨a4, rfl, rfl, rfl, w4⟩ := open_int Try.underlying3 (hval 4 3 v4 rfl rfl) h4
  obtain ⟨a5, rfl, rfl, rfl, w5⟩ := open_int Try.underlying3 (hval 5 3 v5 rfl rfl) h5
  clear hA0 hval0 hsz0
  refine (walk W v0 v1 v2 v3 a4 a5 w4 w5 o0 o1 o2 o3).mono fun e W' ⟨he, bel⟩ => ?_
  subst he
  exact ⟨_, rfl, _, _, _, [], _, [], hW', trodAll_mk1 (shut_bool Try.underlying4 _), (trodAll_cons_mk (Below.trod laid (by kernel_rfl) (of_decide_eq_true (by kernel_rfl)) h0 bel (fun x hx => hlt x (by simp [hx]))) (trodAll_cons_mk (Below.trod laid (by kernel_rfl) (of_decide_eq_true (by kernel_rfl)) h1 bel (fun x hx => hlt x (by simp [hx]))) (trodAll_cons_mk (Below.trod laid (by kernel_rfl) (of_decide_eq_true (by kernel_rfl)) h2 bel (fun x hx => hlt x (by simp [hx]))) (trodAll_cons_mk (Below.trod laid (by kernel_rfl) (of_decide_eq_true (by kernel_rfl)) h3 bel (fun x hx => hlt x (by simp [hx]))) (trodAll_cons_mk (shut_int Try.underlying3 w4) (trodAll_cons_mk (shut_int Try.underlying3 w5) trodAll_mk0)))))), rfl, bel.frame _, fun h => by cases h⟩
theorem over : Rows.sumHeadsRow.holds Try.pinned (OpenSpec.ofChange Rows.sumHeadsSpec) :=
  OpenClaim.holds_of_wide 10 Try.f10 rfl rfl rfl rfl rfl rfl rfl ⟨rfl, rfl, rfl, rfl, rfl⟩ rfl rfl rfl rfl rfl (by kernel_rfl) Try.func10 (by kernel_rfl)
    (of_decide_eq_true (by kernel_rfl)) (by unfold Func.isWrapper; first | (rw [if_pos (by decide +kernel)]; kernel_rfl) | (rw [if_neg (by decide +kernel)]; exact ⟨rfl, rfl⟩))
    (fun os started H enc _ => lifted os started H enc)
theorem proved : Rows.SumHeadsSaid := over
end Go.Proofs.Ytjekkpnmpcpgaaa.sumHeads
namespace Go.Proofs.Ytjekkpnmpcpgaaa
theorem sumHeads_holds : Rows.SumHeadsSaid := sumHeads.proved
end Go.Proofs.Ytjekkpnmpcpgaaa
