/- ClassNear: for every input the law answers true, and its arguments read as before: the row, and its card, tied to the program's text. -/
import Derived.Test.YtohaalilplngnaaDoorRows
import Derived.Test.YtohaalilplngnaaDoorCards
import Derived.Test.YtohaalilplngnaaDoorTie
import Derived.Test.YtohaalilplngnaaDoorClassArgs
import Derived.Test.YtohaalilplngnaaDoorClassNear
import Derived.Test.YtohaalilplngnaaDoorClassDoor
import Derived.Test.YtohaalilplngnaaDoorEngV
import Derived.WalkKit
import Derived.ProofKit
import Derived.OpenShut
import Derived.ShutString
import Derived.ChangeOld
import Derived.Below
import Derived.SizedLaws
import Derived.Carry
import Derived.SevenTiedAt
namespace Go.Proofs.YtohaalilplngnaaDoor.classNear
open Go.ChangeShapes Go.WideShapes Go.ChangeAt Go.RowKit
open Go.ChangeMaps (open_string shut_string)
open Go.Proofs.YtohaalilplngnaaDoor.ClassRun
set_option linter.unusedVariables false
theorem okb_of {l : List Int} (h : ∀ x ∈ l, (Lit.int .u8 x).wf = true) : ClassRun.okb l := by
  intro i hi
  have := h (l.getD i 0) (by rw [List.getD_eq_getElem?_getD, List.getElem?_eq_getElem hi]; exact List.getElem_mem hi)
  simpa [Lit.wf, IntKind.min, IntKind.max, IntKind.signed, IntKind.bits] using this
set_option maxRecDepth 100000 in
theorem walk (w : World) (hG : Eng.Glob (w.heap.size ≤ ·) w) (v0 v1 v2 v3 : Value) (n m : Int) (wn : (Lit.int .u8 n).wf = true) (wm : (Lit.int .u8 m).wf = true)
    (o0 : ∃ l : List Int, l.length = 4 ∧ v0 = .agg (l.map (Value.int .u8)).toArray ∧ ∀ x ∈ l, (Lit.int .u8 x).wf = true)
    (o1 : ∃ l : List Int, l.length = 4 ∧ v1 = .agg (l.map (Value.int .u8)).toArray ∧ ∀ x ∈ l, (Lit.int .u8 x).wf = true)
    (o2 : ∃ l : List Int, l.length = 16 ∧ v2 = .agg (l.map (Value.int .u8)).toArray ∧ ∀ x ∈ l, (Lit.int .u8 x).wf = true)
    (o3 : ∃ l : List Int, l.length = 16 ∧ v3 = .agg (l.map (Value.int .u8)).toArray ∧ ∀ x ∈ l, (Lit.int .u8 x).wf = true) :
    Calls Tryd.prog 11 #[v0, v1, v2, v3, .int .u8 n, .int .u8 m] w fun e w' => e = .returned (.bool true) ∧ Below w.heap.size w w' := by
  obtain ⟨la, ha, rfl, wa⟩ := o0
  obtain ⟨lb, hb, rfl, wb⟩ := o1
  obtain ⟨lp, hp, rfl, wp⟩ := o2
  obtain ⟨lx, hx, rfl, wx⟩ := o3
  have wn : 0 ≤ n ∧ n ≤ 255 := by simpa [Lit.wf, IntKind.min, IntKind.max, IntKind.signed, IntKind.bits] using wn
  have wm : 0 ≤ m ∧ m ≤ 255 := by simpa [Lit.wf, IntKind.min, IntKind.max, IntKind.signed, IntKind.bits] using wm
  match la, ha, lb, hb, lp, hp, lx, hx with
  | [a0, a1, a2, a3], _, [b0, b1, b2, b3], _, [p0, p1, p2, p3, p4, p5, p6, p7, p8, p9, p10, p11, p12, p13, p14, p15], _, [x0, x1, x2, x3, x4, x5, x6, x7, x8, x9, x10, x11, x12, x13, x14, x15], _ =>
    exact Eng.wpFn_trueH ClassRun.Γ11_f ClassRun.Γ11_s ClassRun.mo ClassRun.fn11 (ClassRun.run11 (okb_of wa) (okb_of wb) (okb_of wp) (okb_of wx) wn wm) (Eng.HRel.none w hG)
      (vs := [.agg ([a0, a1, a2, a3].map (Value.int .u8)).toArray, .agg ([b0, b1, b2, b3].map (Value.int .u8)).toArray, .agg ([p0, p1, p2, p3, p4, p5, p6, p7, p8, p9, p10, p11, p12, p13, p14, p15].map (Value.int .u8)).toArray, .agg ([x0, x1, x2, x3, x4, x5, x6, x7, x8, x9, x10, x11, x12, x13, x14, x15].map (Value.int .u8)).toArray, .int .u8 n, .int .u8 m])
      ⟨_, _, rfl, ⟨_, rfl, Eng.ints_rel .u8 [a0, a1, a2, a3]⟩, _, _, rfl, ⟨_, rfl, Eng.ints_rel .u8 [b0, b1, b2, b3]⟩, _, _, rfl, ⟨_, rfl, Eng.ints_rel .u8 [p0, p1, p2, p3, p4, p5, p6, p7, p8, p9, p10, p11, p12, p13, p14, p15]⟩, _, _, rfl, ⟨_, rfl, Eng.ints_rel .u8 [x0, x1, x2, x3, x4, x5, x6, x7, x8, x9, x10, x11, x12, x13, x14, x15]⟩, _, _, rfl, rfl, _, _, rfl, rfl, rfl⟩
theorem laidOut : laidOutB Tryd.prog = true := by kernel_rfl
set_option maxRecDepth 100000 in
theorem lifted (os : Os) (started : os.Started) (H : Type) (enc : TypeId × Value → H) :
    ReturnsInHanded {} Tryd.checked os 11 .any (fun w args => (Rows.classNearSpec.pre enc Tryd.prog Tryd.f11 [] false w args ∧ laidMetH Tryd.prog ClassDoor.laid5 w) ∧ sizedMet enc Tryd.prog Tryd.f11 (OpenSpec.ofChange Rows.classNearSpec) false w args)
      (Rows.classNearSpec.post enc Tryd.prog Tryd.f11 false true false false) := by
  refine ClassDoor.handed (C := Tryd.checked) (X := fun w _ => laidMetH Tryd.prog ClassDoor.laid5 w) (fun _ _ _ hh h => h.of_heap hh) ClassDoor.own started (by kernel_rfl) Tryd.func11
    (ChangeSpec.witness_shaped (enc := enc) (C := Tryd.checked) (os := os) (X := fun w _ => laidMetH Tryd.prog ClassDoor.laid5 w) false (ClassDoor.door os) #[.agg #[.int .u8 0, .int .u8 0, .int .u8 0, .int .u8 0], .agg #[.int .u8 0, .int .u8 0, .int .u8 0, .int .u8 0], .agg #[.int .u8 0, .int .u8 0, .int .u8 0, .int .u8 0, .int .u8 0, .int .u8 0, .int .u8 0, .int .u8 0, .int .u8 0, .int .u8 0, .int .u8 0, .int .u8 0, .int .u8 0, .int .u8 0, .int .u8 0, .int .u8 0], .agg #[.int .u8 0, .int .u8 0, .int .u8 0, .int .u8 0, .int .u8 0, .int .u8 0, .int .u8 0, .int .u8 0, .int .u8 0, .int .u8 0, .int .u8 0, .int .u8 0, .int .u8 0, .int .u8 0, .int .u8 0, .int .u8 0], .int .u8 0, .int .u8 0] 8 rfl (ClassDoor.shaped os _) (by kernel_rfl) (by kernel_rfl) (by kernel_rfl) (ClassDoor.met5 os _)) ?_
  intro W base args ds gs before hval0 hW hsh hL
  have hval : ∀ (j : Nat) t v, Tryd.f11.params[j]? = some t → args[j]? = some v → Value.okWide Tryd.prog W .any base t v := hval0
  have hW' := hW
  obtain ⟨p, q, hA0, hV, rfl, hfz, hnd⟩ := hW
  have hA : DataW.TrodAll enc Tryd.prog W 0 (fun _ => true) true Tryd.f11.params.toList args.toList ds p := hA0
  rw [Tryd.params11] at hA hval
  have hG := ClassDoor.start (ClassDoor.of5 hL hsh)
  have hlt := DataW.TrodAll.lt hA
  obtain ⟨v0, vs0, d0, ds0, p0, q0, hargs, rfl, rfl, h0, r0⟩ := trodAll_cons hA
  obtain ⟨v1, vs1, d1, ds1, p1, q1, rfl, rfl, rfl, h1, r1⟩ := trodAll_cons r0
  obtain ⟨v2, vs2, d2, ds2, p2, q2, rfl, rfl, rfl, h2, r2⟩ := trodAll_cons r1
  obtain ⟨v3, vs3, d3, ds3, p3, q3, rfl, rfl, rfl, h3, r3⟩ := trodAll_cons r2
  obtain ⟨v4, vs4, d4, ds4, p4, q4, rfl, rfl, rfl, h4, r4⟩ := trodAll_cons r3
  obtain ⟨v5, vs5, d5, ds5, p5, q5, rfl, rfl, rfl, h5, r5⟩ := trodAll_cons r4
  obtain ⟨rfl, rfl, rfl⟩ := trodAll_nil r5
  obtain rfl : args = #[v0, v1, v2, v3, v4, v5] := by cases args; simp_all
  obtain ⟨rfl, rfl⟩ := trodVars_none hV
  have o0 := Eng.arg_array (w := W) Tryd.underlying23 Tryd.underlying5 (by kernel_rfl) (by kernel_rfl) (hval 0 23 v0 rfl rfl) h0
  have o1 := Eng.arg_array (w := W) Tryd.underlying23 Tryd.underlying5 (by kernel_rfl) (by kernel_rfl) (hval 1 23 v1 rfl rfl) h1
  have o2 := Eng.arg_array (w := W) Tryd.underlying25 Tryd.underlying5 (by kernel_rfl) (by kernel_rfl) (hval 2 25 v2 rfl rfl) h2
  have o3 := Eng.arg_array (w := W) Tryd.underlying25 Tryd.underlying5 (by kernel_rfl) (by kernel_rfl) (hval 3 25 v3 rfl rfl) h3
  obtain ⟨a4, rfl, rfl, rfl, w4⟩ := open_int Tryd.underlying5 (hval 4 5 v4 rfl rfl) h4
  obtain ⟨a5, rfl, rfl, rfl, w5⟩ := open_int Tryd.underlying5 (hval 5 5 v5 rfl rfl) h5
  clear hA0 hval0
  refine (walk W hG v0 v1 v2 v3 a4 a5 w4 w5 o0 o1 o2 o3).mono fun e W' ⟨he, bel⟩ => ?_
  subst he
  exact ⟨_, rfl, _, _, _, [], _, [], hW', trodAll_mk1 (shut_bool Tryd.underlying4 _), (trodAll_cons_mk (Below.trod laidOut (by kernel_rfl) (of_decide_eq_true (by kernel_rfl)) h0 bel (fun x hx => hlt x (by simp [hx]))) (trodAll_cons_mk (Below.trod laidOut (by kernel_rfl) (of_decide_eq_true (by kernel_rfl)) h1 bel (fun x hx => hlt x (by simp [hx]))) (trodAll_cons_mk (Below.trod laidOut (by kernel_rfl) (of_decide_eq_true (by kernel_rfl)) h2 bel (fun x hx => hlt x (by simp [hx]))) (trodAll_cons_mk (Below.trod laidOut (by kernel_rfl) (of_decide_eq_true (by kernel_rfl)) h3 bel (fun x hx => hlt x (by simp [hx]))) (trodAll_cons_mk (shut_int Tryd.underlying5 w4) (trodAll_cons_mk (shut_int Tryd.underlying5 w5) trodAll_mk0)))))), rfl, bel.frame _, fun h => by cases h⟩
theorem over : Rows.classNearRow.holds Tryd.pinned (OpenSpec.ofChange Rows.classNearSpec) :=
  OpenClaim.holds_of_wide 11 Tryd.f11 rfl rfl rfl rfl rfl rfl rfl ⟨rfl, rfl, rfl, rfl, rfl⟩ rfl rfl rfl rfl rfl (by kernel_rfl) Tryd.func11 (by kernel_rfl)
    (of_decide_eq_true (by kernel_rfl)) (by unfold Func.isWrapper; first | (rw [if_pos (by decide +kernel)]; kernel_rfl) | (rw [if_neg (by decide +kernel)]; exact ⟨rfl, rfl⟩))
    (fun os started H enc _ => lifted os started H enc)
theorem proved : Rows.ClassNearCardSaid :=
  Claim7.holds_tied_plain_at .later [] [.data, .data, .data, .data, .pinned] true (true, "e8bdd243bf0345251786db9c42d6372c3cb41336b466f8775dee2baa2b261ea5") false
    over (fun _ h => by cases h) (by kernel_rfl) (fun _ h => by cases h) classNear_row_tie rfl ⟨rfl, rfl⟩ (by kernel_rfl) rfl
    (fun f fn hf hfn => by
      obtain rfl : f = 11 := Option.some.inj ((show Tryd.prog.funcNamed "interpreter/interpreterlaw10.ClassNear" = some 11 by kernel_rfl).symm.trans hf) |>.symm
      obtain rfl : fn = Tryd.f11 := (Option.some.inj (Tryd.func11.symm.trans hfn)).symm
      exact ⟨by kernel_rfl, fun j t ht => by
        have hall : (Tryd.f11.params.toList.all fun u => !Tryd.prog.wantsStandIn u) = true := by kernel_rfl
        have hm : t ∈ Tryd.f11.params.toList := by simpa using Array.mem_of_getElem? ht
        exact (show Tryd.prog.wantsStandIn t = false by simpa using List.all_eq_true.1 hall t hm)⟩)
    (by kernel_rfl)
end Go.Proofs.YtohaalilplngnaaDoor.classNear
namespace Go.Proofs.YtohaalilplngnaaDoor
theorem classNear_holds : Rows.ClassNearCardSaid := classNear.proved
end Go.Proofs.YtohaalilplngnaaDoor
