/- Environments of functions: each by its own run, to a depth; those that write no row that was there leave the rows as they were. -/
import Derived.Test.YtnfbgfmdjaodgaaEngN
set_option linter.unusedVariables false
set_option linter.unusedSimpArgs false
namespace Go.Proofs.Ytnfbgfmdjaodgaa.Eng
open Go.RowKit

theorem get_less {ρ σ : List Loc} {id : Nat} {l : Loc} (h : (ρ ++ σ)[id]? = some l) (hid : id < ρ.length) : ρ[id]? = some l := by
  rwa [List.getElem?_append_left hid] at h
mutual
theorem VRel.less {ρ σ : List Loc} : ∀ {a : AV} {v : Value}, AV.under ρ.length a = true → VRel (ρ ++ σ) a v → VRel ρ a v
  | .bad, _, _, _ => trivial
  | .bo _, _, _, h => h
  | .i _ _, _, _, h => h
  | .s _, _, _, h => h
  | .pn, _, _, h => h
  | .p _ _, _, hu, ⟨l, h1, h2⟩ => ⟨l, get_less h1 (by simpa [AV.under] using hu), h2⟩
  | .sn, _, _, h => h
  | .sl _ _ _ _ _, _, hu, ⟨l, a, h1, h2⟩ => ⟨l, a, get_less h1 (by simpa [AV.under] using hu), h2⟩
  | .mn, _, _, h => h
  | .m _, _, hu, ⟨l, h1, h2⟩ => ⟨l, get_less h1 (by simpa [AV.under] using hu), h2⟩
  | .nf, _, _, h => h
  | .ni, _, _, h => h
  | .ic _ x, _, hu, ⟨y, h1, h2⟩ => ⟨y, h1, VRel.less (a := x) (by simpa [AV.under] using hu) h2⟩
  | .fn _ caps, _, hu, ⟨ys, h1, h2⟩ => ⟨ys, h1, VRels.less (as := caps) (by simpa [AV.under] using hu) h2⟩
  | .ag xs, _, hu, ⟨ys, h1, h2⟩ => ⟨ys, h1, VRels.less (as := xs) (by simpa [AV.under] using hu) h2⟩
  | .tu xs, _, hu, ⟨ys, h1, h2⟩ => ⟨ys, h1, VRels.less (as := xs) (by simpa [AV.under] using hu) h2⟩
theorem VRels.less {ρ σ : List Loc} : ∀ {as : List AV} {vs : List Value}, AV.unders ρ.length as = true → VRels (ρ ++ σ) as vs → VRels ρ as vs
  | [], _, _, h => h
  | x :: xs, _, hu, ⟨y, ys, h1, h2, h3⟩ => by
    have hu' : AV.under ρ.length x = true ∧ AV.unders ρ.length xs = true := by simpa [AV.unders] using hu
    exact ⟨y, ys, h1, VRel.less (a := x) hu'.1 h2, VRels.less (as := xs) hu'.2 h3⟩
end

def pureOf (h : Hp) (r : Option (AV × Hp)) : Option (AV × Hp) :=
  match r with
  | some (v, _) => if v.under h.length then some (v, h) else none
  | none => none
section
variable (P : Program) (W : FuncId → Nat → Option Road) (F : Nat)
def fnOk (f : FuncId) : Bool := match P.funcs[f]? with
  | some fn => !(fn.name == "runtime.NumGoroutine") && match fn.body with
    | some c => codeOk P (W f) c
    | none => false
  | none => false
def step1 (L : List FuncId) (pu : List FuncId) (Γ : Env) : Env := fun f args h =>
  if L.contains f then match P.funcs[f]? with
    | some fn => if pu.contains f then pureOf h (runFn P Γ (W f) F fn args (lockH h)) else runFn P Γ (W f) F fn args h
    | none => none
  else none
def both (C Γ : Env) : Env := fun f args h => match C f args h with
  | some r => some r
  | none => Γ f args h
def noEnv : Env := fun _ _ _ => none
def envN (L pu : List FuncId) (C : Env) : Nat → Env
  | 0 => C
  | n + 1 => both C (step1 P W F L pu (envN L pu C n))
end
theorem noEnv_sound (P : Program) : Sound P noEnv := fun _ _ _ _ _ h => by cases h
theorem both_sound {P : Program} {C Γ : Env} (hC : Sound P C) (hΓ : Sound P Γ) : Sound P (both C Γ) := by
  intro f args h r h' he
  unfold both at he
  split at he
  · rename_i q hq; rw [he] at hq; exact hC f args h r h' hq
  · exact hΓ f args h r h' he
theorem fnOk_spec {P : Program} {W : FuncId → Nat → Option Road} {f : FuncId} (h : fnOk P W f = true) : FnOk P f ∧ ∀ fn c, P.funcs[f]? = some fn → fn.body = some c → codeOk P (W f) c = true := by
  unfold fnOk at h
  split at h
  · rename_i fn hfn
    simp only [Bool.and_eq_true, Bool.not_eq_true'] at h
    obtain ⟨h1, h2⟩ := h
    split at h2
    · rename_i c hc
      refine ⟨⟨fn, hfn, by rw [hc]; rfl, h1⟩, fun fn' c' k1 k2 => ?_⟩
      obtain rfl : fn = fn' := Option.some.inj (hfn.symm.trans k1)
      obtain rfl : c = c' := Option.some.inj (hc.symm.trans k2)
      exact h2
    · cases h2
  · cases h
theorem pure_run {P : Program} {Γ : Env} (hΓ : Sound P Γ) (hm : P.follows .mixedOrders = true) {W : Nat → Option Road} {F : Nat} {f : FuncId} {fn : Func} {args : List AV} {h h' : Hp} {r : AV} (hf : P.funcs[f]? = some fn) (hok : ∀ c, fn.body = some c → codeOk P W c = true)
    (he : pureOf h (runFn P Γ W F fn args (lockH h)) = some (r, h')) {own : Nat → Prop} {ρ : List Loc} {w : World} {vs : List Value} (H : HRel own ρ h w) (ha : VRels ρ args vs) :
    Calls P f vs.toArray w fun e w' => ∃ σ z, e = .returned z ∧ HRel own (ρ ++ σ) h' w' ∧ VRel (ρ ++ σ) r z ∧ Keeps own w w' := by
  unfold pureOf at he
  split at he
  · rename_i v h1 hrun
    split at he
    · rename_i hu
      simp only [Option.some.injEq, Prod.mk.injEq] at he
      obtain ⟨rfl, rfl⟩ := he
      refine (runFn_run hΓ hm hf hok hrun H.lock ha).mono fun e w' hp => ?_
      obtain ⟨σ, z, k1, k2, k3, k4⟩ := hp
      have old : ∀ b, b < w.heap.size → w'.heap[b]? = w.heap[b]? := fun b hb => k4.block b (by omega)
      refine ⟨[], z, k1, ?_, ?_, ⟨k4.os, k4.tape, k4.output, k4.size, fun b hb => k4.block b fun hle => hb (H.fresh b hle)⟩⟩
      · rw [List.append_nil]
        refine ⟨H.glob.keep k4.size (fun b _ hb => old b hb), H.len, fun b hb => H.fresh b (Nat.le_trans k4.size hb), fun id B l m1 m2 => (H.blk id B l m1 m2).old fun hs => old _ (H.lt id B l m1 m2 hs), H.ours, fun id B l m1 m2 m3 => Nat.lt_of_lt_of_le (H.lt id B l m1 m2 m3) k4.size, H.sep⟩
      · rw [List.append_nil]
        exact VRel.less (by rw [H.len]; exact hu) k3
    · cases he
  · cases he
theorem step1_sound {P : Program} {W : FuncId → Nat → Option Road} {F : Nat} {L pu : List FuncId} {Γ : Env} (hm : P.follows .mixedOrders = true) (hL : L.all (fnOk P W) = true) (hΓ : Sound P Γ) : Sound P (step1 P W F L pu Γ) := by
  intro f args h r h' he
  unfold step1 at he
  split at he
  · rename_i hf
    obtain ⟨h1, h2⟩ := fnOk_spec (List.all_eq_true.1 hL f (by simpa using hf))
    split at he
    · rename_i fn hfn
      refine .inl ⟨h1, fun own ρ w vs H ha => ?_⟩
      split at he
      · exact pure_run hΓ hm hfn (fun c => h2 fn c hfn) he H ha
      · exact runFn_run hΓ hm hfn (fun c => h2 fn c hfn) he H ha
    · cases he
  · cases he
theorem envN_sound {P : Program} {W : FuncId → Nat → Option Road} {F : Nat} {L pu : List FuncId} {C : Env} (hm : P.follows .mixedOrders = true) (hL : L.all (fnOk P W) = true) (hC : Sound P C) : ∀ n, Sound P (envN P W F L pu C n)
  | 0 => hC
  | n + 1 => both_sound hC (step1_sound hm hL (envN_sound hm hL hC n))
theorem Sound.calls {P : Program} {Γ : Env} (hΓ : Sound P Γ) {f : FuncId} (hf : FnOk P f) {args : List AV} {h h' : Hp} {r : AV} (he : Γ f args h = some (r, h')) (own : Nat → Prop) (ρ : List Loc) (w : World) (vs : List Value) (H : HRel own ρ h w) (ha : VRels ρ args vs) :
    Calls P f vs.toArray w fun e w' => ∃ σ z, e = .returned z ∧ HRel own (ρ ++ σ) h' w' ∧ VRel (ρ ++ σ) r z ∧ Keeps own w w' := by
  rcases hΓ f args h r h' he with ⟨_, k⟩ | k
  · exact k own ρ w vs H ha
  · obtain ⟨fn, hfn, hbody, hname⟩ := hf
    obtain ⟨σ, z, w', e1, _⟩ := k own ρ w vs H ha
    simp only [callFunc, Sem.run_bind, run_program, Result.andThen_ok, hfn, hname, hbody, Bool.false_eq_true, if_false, Sem.run_pure] at e1
    cases e1
def fnOkB (P : Program) (f : FuncId) : Bool := match P.funcs[f]? with
  | some fn => !fn.body.isNone && !(fn.name == "runtime.NumGoroutine")
  | none => false
theorem fnOkB_ok {P : Program} {f : FuncId} (h : fnOkB P f = true) : FnOk P f := by
  unfold fnOkB at h
  split at h
  · rename_i fn hfn
    simp only [Bool.and_eq_true, Bool.not_eq_true'] at h
    exact ⟨fn, hfn, h.1, h.2⟩
  · cases h
theorem calls_nothing {P : Program} {Γ : Env} (hΓ : Sound P Γ) {f : FuncId} {args : List AV} {h' : Hp} {r : AV} {vs : List Value} (he : Γ f args [] = some (r, h')) (ha : VRels [] args vs) (w : World) (hf : FnOk P f := by exact fnOkB_ok (by kernel_rfl)) (hG : Glob (w.heap.size ≤ ·) w := by exact Glob.nil rfl trivial) :
    Calls P f vs.toArray w fun e w' => ∃ σ z, e = .returned z ∧ HRel (w.heap.size ≤ ·) σ h' w' ∧ VRel σ r z ∧ Below w.heap.size w w' := by
  have H : HRel (w.heap.size ≤ ·) [] [] w := ⟨hG, rfl, fun _ h => h, fun _ _ _ h => by simp at h, fun _ _ _ h => by simp at h, fun _ _ _ h => by simp at h, fun _ _ _ _ _ _ h => by simp at h⟩
  refine (hΓ.calls hf he _ [] w vs H ha).mono fun e w' hp => ?_
  obtain ⟨σ, z, h1, h2, h3, h4⟩ := hp
  exact ⟨σ, z, h1, by simpa using h2, by simpa using h3, h4.below⟩
end Go.Proofs.Ytnfbgfmdjaodgaa.Eng
