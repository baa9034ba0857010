/- ScriptBack: for every input the law answers true, and its arguments read as before. -/
import Derived.Test.YtnfbgfmdjaodgaaRows
import Derived.Test.YtnfbgfmdjaodgaaScriptSf
import Derived.Test.YtnfbgfmdjaodgaaScriptArgs
import Derived.Test.YtnfbgfmdjaodgaaEngV
import Derived.WalkKit
import Derived.ProofKit
import Derived.OpenShut
import Derived.ShutString
import Derived.ChangeOld
import Derived.Below
import Derived.SizedLaws
import Derived.Carry
namespace Go.Proofs.Ytnfbgfmdjaodgaa.scriptBack
open Go.ChangeShapes Go.WideShapes Go.ChangeAt Go.RowKit
open Go.ChangeMaps (open_string shut_string)
open Go.Proofs.Ytnfbgfmdjaodgaa.ScriptRun
set_option linter.unusedVariables false
set_option maxRecDepth 100000 in
theorem walk (w : World) (v0 v1 : Value) (o0 : v0 = .slice none 0 0 ∨ ∃ (len : Nat) (xs : List Ev) (l : Eng.Loc), Eng.InRecs w v0 (Eng.recs mkEv xs) len 3 xs.length l ∧ (∀ x ∈ xs, True) ∧ xs.length ≤ maxLen)
    (o1 : v1 = .slice none 0 0 ∨ ∃ (len : Nat) (xs : List UInt8) (l : Eng.Loc), Eng.InRecs w v1 (Eng.recs mkB xs) len 1 xs.length l ∧ (∀ x ∈ xs, True) ∧ xs.length ≤ maxLen) :
    Calls Try.prog 5 #[v0, v1] w fun e w' => e = .returned (.bool true) ∧ Below w.heap.size w w' := by
  rcases o0 with rfl | ⟨len, xs, l, hin, _, hm⟩
  · rcases o1 with rfl | ⟨lenb, bs, lb, hib, _, _⟩
    · exact Eng.runF_true ok5 run5_00 (Eng.HRel.none w (Eng.Glob.nil rfl trivial)) (vs := [.slice none 0 0, .slice none 0 0]) ⟨_, _, rfl, rfl, _, _, rfl, rfl, rfl⟩
    · have hlb : (bs.take lenb).length = lenb := by have := hib.le; rw [List.length_take]; omega
      have hz : bs.take (bs.take lenb).length = bs.take lenb := by rw [hlb]
      have hv := hib.val [lb] 0 rfl
      rw [← hlb] at hv
      exact Eng.runF_true ok5 (run5_01 hz bs.length (by rw [hlb]; exact hib.le)) (hib.one (Eng.Glob.nil rfl trivial)) (vs := [.slice none 0 0, v1]) ⟨_, _, rfl, rfl, _, _, rfl, hv, rfl⟩
  · have hlen : (xs.take len).length = len := by have := hin.le; rw [List.length_take]; omega
    have hx : xs.take (xs.take len).length = xs.take len := by rw [hlen]
    rcases o1 with rfl | ⟨lenb, bs, lb, hib, _, _⟩
    · have hv := hin.val [l] 0 rfl
      rw [← hlen] at hv
      exact Eng.runF_true ok5 (run5_10 hx xs.length (by rw [hlen]; exact hin.le) hm) (hin.one (Eng.Glob.nil rfl trivial)) (vs := [v0, .slice none 0 0]) ⟨_, _, rfl, hv, _, _, rfl, rfl, rfl⟩
    · have hlb : (bs.take lenb).length = lenb := by have := hib.le; rw [List.length_take]; omega
      have hz : bs.take (bs.take lenb).length = bs.take lenb := by rw [hlb]
      have hv := hin.val [l, lb] 0 rfl
      rw [← hlen] at hv
      have hv' := hib.val [l, lb] 1 rfl
      rw [← hlb] at hv'
      exact Eng.runF_true ok5 (run5_11 hx xs.length (by rw [hlen]; exact hin.le) hm hz bs.length (by rw [hlb]; exact hib.le)) (hin.two hib (Eng.Glob.nil rfl trivial)) (vs := [v0, v1]) ⟨_, _, rfl, hv, _, _, rfl, hv', rfl⟩
theorem laid : laidOutB Try.prog = true := by kernel_rfl
theorem own : ownKnob Try.prog.godebug = none := by kernel_rfl
set_option maxRecDepth 100000 in
theorem lifted (os : Os) (started : os.Started) (H : Type) (enc : TypeId × Value → H) :
    ReturnsInHanded {} Try.checked os 5 .any (Rows.scriptBackSpec.pre6 enc Try.prog Try.f5 Rows.scriptBackRow.domain false) (Rows.scriptBackSpec.post enc Try.prog Try.f5 false true false false) := by
  refine returnsInHanded_of_change_sized (C := Try.checked) own started (by kernel_rfl) Try.func5
    (ChangeSpec.witness6 (enc := enc) (C := Try.checked) false ⟨#[], #[.slice none 0 0, .slice none 0 0], []⟩ 8 (by kernel_rfl) (by kernel_rfl) (by kernel_rfl) (by kernel_rfl)) ?_
  intro W base args ds gs before hval0 hW hcnd hsz0 _
  have hval : ∀ (j : Nat) t v, Try.f5.params[j]? = some t → args[j]? = some v → Value.okWide Try.prog W .any base t v := hval0
  have hW' := hW
  obtain ⟨p, q, hA0, hV, rfl, hfz, hnd⟩ := hW
  have hA : DataW.TrodAll enc Try.prog W 0 (fun _ => true) true Try.f5.params.toList args.toList ds p := hA0
  rw [Try.params5] at hA hval
  have hlt := DataW.TrodAll.lt hA
  obtain ⟨v0, vs0, d0, ds0, p0, q0, hargs, rfl, rfl, h0, r0⟩ := trodAll_cons hA
  obtain ⟨v1, vs1, d1, ds1, p1, q1, rfl, rfl, rfl, h1, r1⟩ := trodAll_cons r0
  obtain ⟨rfl, rfl, rfl⟩ := trodAll_nil r1
  obtain rfl : args = #[v0, v1] := by cases args; simp_all
  obtain ⟨rfl, rfl⟩ := trodVars_none hV
  have o0 := Eng.arg_recs (w := W) mkEv_len (by decide) (fun _ => rfl) unE_rel Go.Proofs.Try.underlying24 (by kernel_rfl) el_ev (hval 0 24 v0 rfl rfl) h0
  have o1 := Eng.arg_recs (w := W) mkB_len (by decide) (fun _ => rfl) unB_rel Go.Proofs.Try.underlying22 (by kernel_rfl) el_byte (hval 1 22 v1 rfl rfl) h1
  clear hA0 hval0 hsz0
  refine (walk W v0 v1  o0 o1).mono fun e W' ⟨he, bel⟩ => ?_
  subst he
  exact ⟨_, rfl, _, _, _, [], _, [], hW', trodAll_mk1 (shut_bool Try.underlying4 _), (trodAll_cons_mk (Below.trod laid (by kernel_rfl) (of_decide_eq_true (by kernel_rfl)) h0 bel (fun x hx => hlt x (by simp [hx]))) (trodAll_cons_mk (Below.trod laid (by kernel_rfl) (of_decide_eq_true (by kernel_rfl)) h1 bel (fun x hx => hlt x (by simp [hx]))) trodAll_mk0)), rfl, bel.frame _, fun h => by cases h⟩
theorem over : Rows.scriptBackRow.holds Try.pinned (OpenSpec.ofChange Rows.scriptBackSpec) :=
  OpenClaim.holds_of_wide 5 Try.f5 rfl rfl rfl rfl rfl rfl rfl ⟨rfl, rfl, rfl, rfl, rfl⟩ rfl rfl rfl rfl rfl (by kernel_rfl) Try.func5 (by kernel_rfl)
    (of_decide_eq_true (by kernel_rfl)) (by unfold Func.isWrapper; first | (rw [if_pos (by decide +kernel)]; kernel_rfl) | (rw [if_neg (by decide +kernel)]; exact ⟨rfl, rfl⟩))
    (fun os started H enc _ => lifted os started H enc)
theorem proved : Rows.ScriptBackSaid := over
end Go.Proofs.Ytnfbgfmdjaodgaa.scriptBack
namespace Go.Proofs.Ytnfbgfmdjaodgaa
theorem scriptBack_holds : Rows.ScriptBackSaid := scriptBack.proved
end Go.Proofs.Ytnfbgfmdjaodgaa
