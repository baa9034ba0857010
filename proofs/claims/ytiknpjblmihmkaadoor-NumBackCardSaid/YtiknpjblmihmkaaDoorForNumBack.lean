/- NumBack: for every input the law answers true, and its arguments read as before: the row, and its card, tied to the program's text. -/
import Derived.Test.YtiknpjblmihmkaaDoorRows
import Derived.Test.YtiknpjblmihmkaaDoorCards
import Derived.Test.YtiknpjblmihmkaaDoorTie
import Derived.Test.YtiknpjblmihmkaaDoorNumBackLaw
import Derived.Test.YtiknpjblmihmkaaDoorNumDoor
import Derived.Test.YtiknpjblmihmkaaDoorEngV
import Derived.WalkKit
import Derived.ProofKit
import Derived.OpenShut
import Derived.ShutString
import Derived.ChangeOld
import Derived.Below
import Derived.SizedLaws
import Derived.Carry
import Derived.SevenTiedAt
namespace Go.Proofs.YtiknpjblmihmkaaDoor.numBack
open Go.ChangeShapes Go.WideShapes Go.ChangeAt Go.RowKit
open Go.ChangeMaps (open_string shut_string)
open Go.Proofs.YtiknpjblmihmkaaDoor.NumRun
set_option linter.unusedVariables false
set_option maxRecDepth 100000 in
theorem walk (w : World) (hG : Eng.Glob (w.heap.size ≤ ·) w) (v0 v1 : Value) (a2 : ByteArray)
    (o0 : v0 = .slice none 0 0 ∨ ∃ (len : Nat) (xs : List Int) (l : Eng.Loc), Eng.InRecs w v0 (Eng.recs NumRun.mkU xs) len 1 xs.length l ∧ (∀ x ∈ xs, 0 ≤ x ∧ x ≤ 4294967295) ∧ xs.length ≤ maxLen)
    (o1 : v1 = .slice none 0 0 ∨ ∃ (len : Nat) (xs : List Int) (l : Eng.Loc), Eng.InRecs w v1 (Eng.recs NumRun.mkS xs) len 1 xs.length l ∧ (∀ x ∈ xs, 0 ≤ x ∧ x ≤ 255) ∧ xs.length ≤ maxLen) :
    Calls Tryd.prog 6 #[v0, v1, .string a2] w fun e w' => e = .returned (.bool true) ∧ Below w.heap.size w w' := by
  rcases o0 with rfl | ⟨len, xs, l, hin, hok, _⟩ <;> rcases o1 with rfl | ⟨len', ys, l', hin', hok', _⟩
  · exact Eng.wpFn_true NumRun.Γ6_f NumRun.Γ6_s NumRun.mo NumRun.fn6 (k := 0) (args := [.sn, .sn, .s a2]) (h := []) (NumRun.law6nn a2) (Eng.HRel.none w hG) (vs := [.slice none 0 0, .slice none 0 0, .string a2]) ⟨_, _, rfl, rfl, _, _, rfl, rfl, _, _, rfl, rfl, rfl⟩
  · exact Eng.wpFn_true NumRun.Γ6_f NumRun.Γ6_s NumRun.mo NumRun.fn6 (k := 1) (NumRun.law6nr (cap := ys.length) a2) (hin'.one hG) (vs := [.slice none 0 0, v1, .string a2]) ⟨_, _, rfl, rfl, _, _, rfl, hin'.val _ 0 rfl, _, _, rfl, rfl, rfl⟩
  · rw [NumRun.recsU] at hin
    exact Eng.wpFn_true NumRun.Γ6_f NumRun.Γ6_s NumRun.mo NumRun.fn6 (k := 1) (NumRun.law6rn (cap := xs.length) a2 hin.le hok) (hin.one hG) (vs := [v0, .slice none 0 0, .string a2]) ⟨_, _, rfl, hin.val _ 0 rfl, _, _, rfl, rfl, _, _, rfl, rfl, rfl⟩
  · rw [NumRun.recsU] at hin
    rw [NumRun.recsS] at hin'
    exact Eng.wpFn_true NumRun.Γ6_f NumRun.Γ6_s NumRun.mo NumRun.fn6 (k := 2) (NumRun.law6rr (cap := xs.length) (cay := ys.length) a2 hin.le hok hin'.le hok') (hin.two hin' hG) (vs := [v0, v1, .string a2]) ⟨_, _, rfl, hin.val _ 0 rfl, _, _, rfl, hin'.val _ 1 rfl, _, _, rfl, rfl, rfl⟩
theorem laidOut : laidOutB Tryd.prog = true := by kernel_rfl
set_option maxRecDepth 100000 in
theorem lifted (os : Os) (started : os.Started) (H : Type) (enc : TypeId × Value → H) :
    ReturnsInHanded {} Tryd.checked os 6 .any (fun w args => (Rows.numBackSpec.pre enc Tryd.prog Tryd.f6 [] false w args ∧ laidMetH Tryd.prog NumDoor.laid1 w) ∧ sizedMet enc Tryd.prog Tryd.f6 (OpenSpec.ofChange Rows.numBackSpec) false w args)
      (Rows.numBackSpec.post enc Tryd.prog Tryd.f6 false true false false) := by
  refine returnsInHanded_of_change_and (C := Tryd.checked) (X := fun w _ => laidMetH Tryd.prog NumDoor.laid1 w) (fun _ _ _ hh h => h.of_heap hh) NumDoor.own started (by kernel_rfl) Tryd.func6
    (ChangeSpec.witness_shaped (enc := enc) (C := Tryd.checked) (os := os) (X := fun w _ => laidMetH Tryd.prog NumDoor.laid1 w) false (NumDoor.door os) #[.slice none 0 0, .slice none 0 0, .string ByteArray.empty] 8 rfl (NumDoor.shaped os _) (by kernel_rfl) (by kernel_rfl) (by kernel_rfl) (NumDoor.met1 os _)) ?_
  intro W base args ds gs before hval0 hW _ _ hL _
  have hval : ∀ (j : Nat) t v, Tryd.f6.params[j]? = some t → args[j]? = some v → Value.okWide Tryd.prog W .any base t v := hval0
  have hW' := hW
  obtain ⟨p, q, hA0, hV, rfl, hfz, hnd⟩ := hW
  have hA : DataW.TrodAll enc Tryd.prog W 0 (fun _ => true) true Tryd.f6.params.toList args.toList ds p := hA0
  rw [Tryd.params6] at hA hval
  have hG := NumDoor.start (NumDoor.of1 hL)
  have hlt := DataW.TrodAll.lt hA
  obtain ⟨v0, vs0, d0, ds0, p0, q0, hargs, rfl, rfl, h0, r0⟩ := trodAll_cons hA
  obtain ⟨v1, vs1, d1, ds1, p1, q1, rfl, rfl, rfl, h1, r1⟩ := trodAll_cons r0
  obtain ⟨v2, vs2, d2, ds2, p2, q2, rfl, rfl, rfl, h2, r2⟩ := trodAll_cons r1
  obtain ⟨rfl, rfl, rfl⟩ := trodAll_nil r2
  obtain rfl : args = #[v0, v1, v2] := by cases args; simp_all
  obtain ⟨rfl, rfl⟩ := trodVars_none hV
  have o0 := Eng.arg_recs (w := W) NumRun.mkU_len (by decide) (fun _ => rfl) NumRun.unU_rel Go.Proofs.Tryd.underlying59 (by kernel_rfl) NumRun.el_u32 (hval 0 59 v0 rfl rfl) h0
  have o1 := Eng.arg_recs (w := W) NumRun.mkS_len (by decide) (fun _ => rfl) NumRun.unS_rel Go.Proofs.Tryd.underlying60 (by kernel_rfl) NumRun.el_u8 (hval 1 60 v1 rfl rfl) h1
  obtain ⟨a2, rfl, rfl, rfl, y2⟩ := open_string Tryd.underlying9 (hval 2 9 v2 rfl rfl) h2
  clear hA0 hval0
  refine (walk W hG v0 v1 a2  o0 o1).mono fun e W' ⟨he, bel⟩ => ?_
  subst he
  exact ⟨_, rfl, _, _, _, [], _, [], hW', trodAll_mk1 (shut_bool Tryd.underlying4 _), (trodAll_cons_mk (Below.trod laidOut (by kernel_rfl) (of_decide_eq_true (by kernel_rfl)) h0 bel (fun x hx => hlt x (by simp [hx]))) (trodAll_cons_mk (Below.trod laidOut (by kernel_rfl) (of_decide_eq_true (by kernel_rfl)) h1 bel (fun x hx => hlt x (by simp [hx]))) (trodAll_cons_mk (shut_string Tryd.underlying9 y2) trodAll_mk0))), rfl, bel.frame _, fun h => by cases h⟩
theorem over : Rows.numBackRow.holds Tryd.pinned (OpenSpec.ofChange Rows.numBackSpec) :=
  OpenClaim.holds_of_wide 6 Tryd.f6 rfl rfl rfl rfl rfl rfl rfl ⟨rfl, rfl, rfl, rfl, rfl⟩ rfl rfl rfl rfl rfl (by kernel_rfl) Tryd.func6 (by kernel_rfl)
    (of_decide_eq_true (by kernel_rfl)) (by unfold Func.isWrapper; first | (rw [if_pos (by decide +kernel)]; kernel_rfl) | (rw [if_neg (by decide +kernel)]; exact ⟨rfl, rfl⟩))
    (fun os started H enc _ => lifted os started H enc)
theorem proved : Rows.NumBackCardSaid :=
  Claim7.holds_tied_plain_at .later [] [.handle] true (true, "40389b2eb7f87f96a25da4e5f9522961b3ff235e978f7a7d929a843fb179a07b") true
    over (fun _ h => by cases h) (by kernel_rfl) (fun _ h => by cases h) numBack_row_tie rfl ⟨rfl, rfl⟩ (by kernel_rfl) rfl
    (fun f fn hf hfn => by
      obtain rfl : f = 6 := Option.some.inj ((show Tryd.prog.funcNamed "interpreter/interpreterlaw01.NumBack" = some 6 by kernel_rfl).symm.trans hf) |>.symm
      obtain rfl : fn = Tryd.f6 := (Option.some.inj (Tryd.func6.symm.trans hfn)).symm
      exact ⟨by kernel_rfl, fun j t ht => by
        have hall : (Tryd.f6.params.toList.all fun u => !Tryd.prog.wantsStandIn u) = true := by kernel_rfl
        have hm : t ∈ Tryd.f6.params.toList := by simpa using Array.mem_of_getElem? ht
        exact (show Tryd.prog.wantsStandIn t = false by simpa using List.all_eq_true.1 hall t hm)⟩)
    (by kernel_rfl)
end Go.Proofs.YtiknpjblmihmkaaDoor.numBack
namespace Go.Proofs.YtiknpjblmihmkaaDoor
theorem numBack_holds : Rows.NumBackCardSaid := numBack.proved
end Go.Proofs.YtiknpjblmihmkaaDoor
