/- ClassReads: for every input the law answers true, and its arguments read as before: the row, and its card, tied to the program's text. -/
import Derived.Test.YtohaalilplngnaaDoorRows
import Derived.Test.YtohaalilplngnaaDoorCards
import Derived.Test.YtohaalilplngnaaDoorTie
import Derived.Test.YtohaalilplngnaaDoorClassReads
import Derived.Test.YtohaalilplngnaaDoorClassDoor
import Derived.Test.YtohaalilplngnaaDoorEngV
import Derived.WalkKit
import Derived.ProofKit
import Derived.OpenShut
import Derived.ShutString
import Derived.ChangeOld
import Derived.Below
import Derived.SizedLaws
import Derived.Carry
import Derived.SevenTiedAt
namespace Go.Proofs.YtohaalilplngnaaDoor.classReads
open Go.ChangeShapes Go.WideShapes Go.ChangeAt Go.RowKit
open Go.ChangeMaps (open_string shut_string)
open Go.Proofs.YtohaalilplngnaaDoor.ClassRun
set_option linter.unusedVariables false
set_option maxRecDepth 100000 in
theorem walk (w : World) (hG : Eng.Glob (w.heap.size ≤ ·) w) (a0 : ByteArray) :
    Calls Tryd.prog 7 #[.string a0] w fun e w' => e = .returned (.bool true) ∧ Below w.heap.size w w' :=
  Eng.wpFn_trueH ClassRun.Γ7_f ClassRun.Γ7_s ClassRun.mo ClassRun.fn7 (ClassRun.run7 _ _ _ _ a0) (Eng.HRel.none w hG) (vs := [.string a0]) ⟨_, _, rfl, rfl, rfl⟩
theorem laidOut : laidOutB Tryd.prog = true := by kernel_rfl
set_option maxRecDepth 100000 in
theorem lifted (os : Os) (started : os.Started) (H : Type) (enc : TypeId × Value → H) :
    ReturnsInHanded {} Tryd.checked os 7 .any (fun w args => (Rows.classReadsSpec.pre enc Tryd.prog Tryd.f7 [] false w args ∧ laidMetH Tryd.prog ClassDoor.laid5 w) ∧ sizedMet enc Tryd.prog Tryd.f7 (OpenSpec.ofChange Rows.classReadsSpec) false w args)
      (Rows.classReadsSpec.post enc Tryd.prog Tryd.f7 false true false false) := by
  refine ClassDoor.handed (C := Tryd.checked) (X := fun w _ => laidMetH Tryd.prog ClassDoor.laid5 w) (fun _ _ _ hh h => h.of_heap hh) ClassDoor.own started (by kernel_rfl) Tryd.func7
    (ChangeSpec.witness_shaped (enc := enc) (C := Tryd.checked) (os := os) (X := fun w _ => laidMetH Tryd.prog ClassDoor.laid5 w) false (ClassDoor.door os) #[.string ByteArray.empty] 8 rfl (ClassDoor.shaped os _) (by kernel_rfl) (by kernel_rfl) (by kernel_rfl) (ClassDoor.met5 os _)) ?_
  intro W base args ds gs before hval0 hW hsh hL
  have hval : ∀ (j : Nat) t v, Tryd.f7.params[j]? = some t → args[j]? = some v → Value.okWide Tryd.prog W .any base t v := hval0
  have hW' := hW
  obtain ⟨p, q, hA0, hV, rfl, hfz, hnd⟩ := hW
  have hA : DataW.TrodAll enc Tryd.prog W 0 (fun _ => true) true Tryd.f7.params.toList args.toList ds p := hA0
  rw [Tryd.params7] at hA hval
  have hG := ClassDoor.start (ClassDoor.of5 hL hsh)
  have hlt := DataW.TrodAll.lt hA
  obtain ⟨v0, vs0, d0, ds0, p0, q0, hargs, rfl, rfl, h0, r0⟩ := trodAll_cons hA
  obtain ⟨rfl, rfl, rfl⟩ := trodAll_nil r0
  obtain rfl : args = #[v0] := by cases args; simp_all
  obtain ⟨rfl, rfl⟩ := trodVars_none hV
  obtain ⟨a0, rfl, rfl, rfl, y0⟩ := open_string Tryd.underlying9 (hval 0 9 v0 rfl rfl) h0
  clear hA0 hval0
  refine (walk W hG a0 ).mono fun e W' ⟨he, bel⟩ => ?_
  subst he
  exact ⟨_, rfl, _, _, _, [], _, [], hW', trodAll_mk1 (shut_bool Tryd.underlying4 _), (trodAll_cons_mk (shut_string Tryd.underlying9 y0) trodAll_mk0), rfl, bel.frame _, fun h => by cases h⟩
theorem over : Rows.classReadsRow.holds Tryd.pinned (OpenSpec.ofChange Rows.classReadsSpec) :=
  OpenClaim.holds_of_wide 7 Tryd.f7 rfl rfl rfl rfl rfl rfl rfl ⟨rfl, rfl, rfl, rfl, rfl⟩ rfl rfl rfl rfl rfl (by kernel_rfl) Tryd.func7 (by kernel_rfl)
    (of_decide_eq_true (by kernel_rfl)) (by unfold Func.isWrapper; first | (rw [if_pos (by decide +kernel)]; kernel_rfl) | (rw [if_neg (by decide +kernel)]; exact ⟨rfl, rfl⟩))
    (fun os started H enc _ => lifted os started H enc)
theorem proved : Rows.ClassReadsCardSaid :=
  Claim7.holds_tied_plain_at .later [] [.data, .data, .data, .data, .pinned] true (true, "e8bdd243bf0345251786db9c42d6372c3cb41336b466f8775dee2baa2b261ea5") false
    over (fun _ h => by cases h) (by kernel_rfl) (fun _ h => by cases h) classReads_row_tie rfl ⟨rfl, rfl⟩ (by kernel_rfl) rfl
    (fun f fn hf hfn => by
      obtain rfl : f = 7 := Option.some.inj ((show Tryd.prog.funcNamed "interpreter/interpreterlaw10.ClassReads" = some 7 by kernel_rfl).symm.trans hf) |>.symm
      obtain rfl : fn = Tryd.f7 := (Option.some.inj (Tryd.func7.symm.trans hfn)).symm
      exact ⟨by kernel_rfl, fun j t ht => by
        have hall : (Tryd.f7.params.toList.all fun u => !Tryd.prog.wantsStandIn u) = true := by kernel_rfl
        have hm : t ∈ Tryd.f7.params.toList := by simpa using Array.mem_of_getElem? ht
        exact (show Tryd.prog.wantsStandIn t = false by simpa using List.all_eq_true.1 hall t hm)⟩)
    (by kernel_rfl)
end Go.Proofs.YtohaalilplngnaaDoor.classReads
namespace Go.Proofs.YtohaalilplngnaaDoor
theorem classReads_holds : Rows.ClassReadsCardSaid := classReads.proved
end Go.Proofs.YtohaalilplngnaaDoor
