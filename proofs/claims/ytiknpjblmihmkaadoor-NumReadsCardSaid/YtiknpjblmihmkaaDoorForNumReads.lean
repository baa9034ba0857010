/- NumReads: for every input the law answers true, and its arguments read as before: the row, and its card, tied to the program's text. -/
import Derived.Test.YtiknpjblmihmkaaDoorRows
import Derived.Test.YtiknpjblmihmkaaDoorCards
import Derived.Test.YtiknpjblmihmkaaDoorTie
import Derived.Test.YtiknpjblmihmkaaDoorNumArgs
import Derived.Test.YtiknpjblmihmkaaDoorNumDoor
import Derived.Test.YtiknpjblmihmkaaDoorEngV
import Derived.WalkKit
import Derived.ProofKit
import Derived.OpenShut
import Derived.ShutString
import Derived.ChangeOld
import Derived.Below
import Derived.SizedLaws
import Derived.Carry
import Derived.SevenTiedAt
namespace Go.Proofs.YtiknpjblmihmkaaDoor.numReads
open Go.ChangeShapes Go.WideShapes Go.ChangeAt Go.RowKit
open Go.ChangeMaps (open_string shut_string)
open Go.Proofs.YtiknpjblmihmkaaDoor.NumRun
set_option linter.unusedVariables false
set_option maxRecDepth 100000 in
theorem walk (w : World) (hG : Eng.Glob (w.heap.size ≤ ·) w) (a0 : ByteArray) (v1 : Value) (o1 : v1 = .slice none 0 0 ∨ ∃ (len : Nat) (xs : List (Int × Int)) (l : Eng.Loc), Eng.InRecs w v1 (Eng.recs NumRun.mkA xs) len 2 xs.length l ∧ (∀ x ∈ xs, NumRun.ok64 x.1 ∧ NumRun.ok64 x.2) ∧ xs.length ≤ maxLen) :
    Calls Tryd.prog 5 #[.string a0, v1] w fun e w' => e = .returned (.bool true) ∧ Below w.heap.size w w' := by
  rcases o1 with rfl | ⟨len, xs, l, hin, hok, _⟩
  · exact Eng.wpFn_true NumRun.Γ5_f NumRun.Γ5_s NumRun.mo NumRun.fn5 (k := 0) (args := [.s a0, .sn]) (h := []) (NumRun.law5n a0) (Eng.HRel.none w hG) (vs := [.string a0, .slice none 0 0]) ⟨_, _, rfl, rfl, _, _, rfl, rfl, rfl⟩
  · exact Eng.wpFn_true NumRun.Γ5_f NumRun.Γ5_s NumRun.mo NumRun.fn5 (k := 1) (NumRun.law5 (cap := xs.length) hin.le hok) (hin.one hG) (vs := [.string a0, v1]) ⟨_, _, rfl, rfl, _, _, rfl, hin.val _ 0 rfl, rfl⟩
theorem laidOut : laidOutB Tryd.prog = true := by kernel_rfl
set_option maxRecDepth 100000 in
theorem lifted (os : Os) (started : os.Started) (H : Type) (enc : TypeId × Value → H) :
    ReturnsInHanded {} Tryd.checked os 5 .any (fun w args => (Rows.numReadsSpec.pre enc Tryd.prog Tryd.f5 [] false w args ∧ laidMetH Tryd.prog NumDoor.laid1 w) ∧ sizedMet enc Tryd.prog Tryd.f5 (OpenSpec.ofChange Rows.numReadsSpec) false w args)
      (Rows.numReadsSpec.post enc Tryd.prog Tryd.f5 false true false false) := by
  refine returnsInHanded_of_change_and (C := Tryd.checked) (X := fun w _ => laidMetH Tryd.prog NumDoor.laid1 w) (fun _ _ _ hh h => h.of_heap hh) NumDoor.own started (by kernel_rfl) Tryd.func5
    (ChangeSpec.witness_shaped (enc := enc) (C := Tryd.checked) (os := os) (X := fun w _ => laidMetH Tryd.prog NumDoor.laid1 w) false (NumDoor.door os) #[.string ByteArray.empty, .slice none 0 0] 8 rfl (NumDoor.shaped os _) (by kernel_rfl) (by kernel_rfl) (by kernel_rfl) (NumDoor.met1 os _)) ?_
  intro W base args ds gs before hval0 hW _ _ hL _
  have hval : ∀ (j : Nat) t v, Tryd.f5.params[j]? = some t → args[j]? = some v → Value.okWide Tryd.prog W .any base t v := hval0
  have hW' := hW
  obtain ⟨p, q, hA0, hV, rfl, hfz, hnd⟩ := hW
  have hA : DataW.TrodAll enc Tryd.prog W 0 (fun _ => true) true Tryd.f5.params.toList args.toList ds p := hA0
  rw [Tryd.params5] at hA hval
  have hG := NumDoor.start (NumDoor.of1 hL)
  have hlt := DataW.TrodAll.lt hA
  obtain ⟨v0, vs0, d0, ds0, p0, q0, hargs, rfl, rfl, h0, r0⟩ := trodAll_cons hA
  obtain ⟨v1, vs1, d1, ds1, p1, q1, rfl, rfl, rfl, h1, r1⟩ := trodAll_cons r0
  obtain ⟨rfl, rfl, rfl⟩ := trodAll_nil r1
  obtain rfl : args = #[v0, v1] := by cases args; simp_all
  obtain ⟨rfl, rfl⟩ := trodVars_none hV
  obtain ⟨a0, rfl, rfl, rfl, y0⟩ := open_string Tryd.underlying9 (hval 0 9 v0 rfl rfl) h0
  have o1 := Eng.arg_recs (w := W) NumRun.mkA_len (by decide) (fun _ => rfl) NumRun.unA_rel Go.Proofs.Tryd.underlying42 (by kernel_rfl) NumRun.el_act (hval 1 42 v1 rfl rfl) h1
  clear hA0 hval0
  refine (walk W hG a0 v1  o1).mono fun e W' ⟨he, bel⟩ => ?_
  subst he
  exact ⟨_, rfl, _, _, _, [], _, [], hW', trodAll_mk1 (shut_bool Tryd.underlying4 _), (trodAll_cons_mk (shut_string Tryd.underlying9 y0) (trodAll_cons_mk (Below.trod laidOut (by kernel_rfl) (of_decide_eq_true (by kernel_rfl)) h1 bel (fun x hx => hlt x (by simp [hx]))) trodAll_mk0)), rfl, bel.frame _, fun h => by cases h⟩
theorem over : Rows.numReadsRow.holds Tryd.pinned (OpenSpec.ofChange Rows.numReadsSpec) :=
  OpenClaim.holds_of_wide 5 Tryd.f5 rfl rfl rfl rfl rfl rfl rfl ⟨rfl, rfl, rfl, rfl, rfl⟩ rfl rfl rfl rfl rfl (by kernel_rfl) Tryd.func5 (by kernel_rfl)
    (of_decide_eq_true (by kernel_rfl)) (by unfold Func.isWrapper; first | (rw [if_pos (by decide +kernel)]; kernel_rfl) | (rw [if_neg (by decide +kernel)]; exact ⟨rfl, rfl⟩))
    (fun os started H enc _ => lifted os started H enc)
theorem proved : Rows.NumReadsCardSaid :=
  Claim7.holds_tied_plain_at .later [] [.handle] true (true, "40389b2eb7f87f96a25da4e5f9522961b3ff235e978f7a7d929a843fb179a07b") true
    over (fun _ h => by cases h) (by kernel_rfl) (fun _ h => by cases h) numReads_row_tie rfl ⟨rfl, rfl⟩ (by kernel_rfl) rfl
    (fun f fn hf hfn => by
      obtain rfl : f = 5 := Option.some.inj ((show Tryd.prog.funcNamed "interpreter/interpreterlaw01.NumReads" = some 5 by kernel_rfl).symm.trans hf) |>.symm
      obtain rfl : fn = Tryd.f5 := (Option.some.inj (Tryd.func5.symm.trans hfn)).symm
      exact ⟨by kernel_rfl, fun j t ht => by
        have hall : (Tryd.f5.params.toList.all fun u => !Tryd.prog.wantsStandIn u) = true := by kernel_rfl
        have hm : t ∈ Tryd.f5.params.toList := by simpa using Array.mem_of_getElem? ht
        exact (show Tryd.prog.wantsStandIn t = false by simpa using List.all_eq_true.1 hall t hm)⟩)
    (by kernel_rfl)
end Go.Proofs.YtiknpjblmihmkaaDoor.numReads
namespace Go.Proofs.YtiknpjblmihmkaaDoor
theorem numReads_holds : Rows.NumReadsCardSaid := numReads.proved
end Go.Proofs.YtiknpjblmihmkaaDoor
