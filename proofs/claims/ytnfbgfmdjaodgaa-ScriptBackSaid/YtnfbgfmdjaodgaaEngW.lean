/- A function's run, cut at regions: each part by its own conditions. -/
import Derived.Test.YtnfbgfmdjaodgaaEngU
set_option linter.unusedVariables false
set_option linter.unusedSimpArgs false
namespace Go.Proofs.Ytnfbgfmdjaodgaa.Eng
open Go.RowKit
def flatC : Code → List Code
  | .seq a b => flatC a ++ flatC b
  | c => [c]
def hdC (r : Nat) : List Code → List Code
  | [] => []
  | c :: cs => if firstReg c = some r then [] else c :: hdC r cs
def tlC (r : Nat) : List Code → List Code
  | [] => []
  | c :: cs => if firstReg c = some r then c :: cs else tlC r cs
theorem hd_tl (r : Nat) : ∀ (cs : List Code), hdC r cs ++ tlC r cs = cs
  | [] => rfl
  | c :: cs => by
    unfold hdC tlC
    split
    · rfl
    · rw [List.cons_append, hd_tl r cs]
def firstL : List Code → Option Nat
  | [] => none
  | c :: _ => firstReg c
def RunL (P : Program) (k : Nat) : List Code → St → (Ex → St → Prop) → Prop
  | [], s, Q => Q .n s
  | c :: cs, s, Q => Run P k c s fun ex s' => match ex with
    | .n => RunL P k cs s' Q
    | .x i => Q (.x i) s'
    | .r => Q .r s'
noncomputable def wpL (P : Program) (T : TEnv) (W : Nat → Option Road) (LA : Nat → Option Head) (k : Nat) : List Code → St → (Ex → St → Prop) → Prop
  | [], s, Q => Q .n s
  | c :: cs, s, Q => match (firstL cs).bind fun r => LA (1000 + r) with
    | some L => ∃ J : L.α → Prop, wpC P T W LA k c s (fun ex s' => match ex with
        | .n => L.G.run s' fun a' => Wk k (maskS (L.S a') s') (L.S a') ∧ J a'
        | .x i => Q (.x i) s'
        | .r => Q .r s') ∧ L.all fun a' => J a' → wpL P T W LA k cs (L.S a') Q
    | none => wpC P T W LA k c s fun ex s' => match ex with
      | .n => wpL P T W LA k cs s' Q
      | .x i => Q (.x i) s'
      | .r => Q .r s'
def atHead (k : Nat) (L : Head) (Z : L.α → Prop) (Q : Ex → St → Prop) (ex : Ex) (s : St) : Prop := match ex with
  | .n => L.G.run s fun a => Wk k (maskS (L.S a) s) (L.S a) ∧ Z a
  | .x i => Q (.x i) s
  | .r => Q .r s
def finQ (P : Program) (fn : Func) (R : AV → Hp → Prop) (ex : Ex) (s : St) : Prop := match ex with
  | .x _ => False
  | .n => optQ (resultsA P s fn.results.toList) fun rs => R (joinA rs) s.h
  | .r => optQ (resultsA P s fn.results.toList) fun rs => R (joinA rs) s.h
section
variable {P : Program} {T : TEnv} {W : Nat → Option Road} {Γ : Env} {k : Nat}
theorem RunL.mono {Q Q' : Ex → St → Prop} (hq : ∀ ex s', Q ex s' → Q' ex s') : ∀ {cs : List Code} {s : St}, RunL P k cs s Q → RunL P k cs s Q'
  | [], s, h => hq _ _ h
  | c :: cs, s, h => by
    refine Run.mono h fun ex s' h' => ?_
    cases ex with
    | n => exact RunL.mono hq h'
    | x i => exact hq _ _ h'
    | r => exact hq _ _ h'
theorem RunL.wk {Q : Ex → St → Prop} {cs : List Code} {s s' : St} (hw : Wk k s s') (hQ : cs ≠ []) (h : RunL P k cs s' Q) : RunL P k cs s Q := by
  cases cs with
  | nil => exact absurd rfl hQ
  | cons c cs => exact Run.wk hw h
theorem runL_append {Q : Ex → St → Prop} : ∀ {xs ys : List Code} {s : St}, (RunL P k xs s fun ex s' => match ex with
    | .n => RunL P k ys s' Q
    | .x i => Q (.x i) s'
    | .r => Q .r s') → RunL P k (xs ++ ys) s Q
  | [], ys, s, h => h
  | c :: xs, ys, s, h => by
    refine Run.mono h fun ex s' h' => ?_
    cases ex with
    | n => exact runL_append h'
    | x i => exact h'
    | r => exact h'
theorem runL_split {Q : Ex → St → Prop} : ∀ {xs ys : List Code} {s : St}, RunL P k (xs ++ ys) s Q → RunL P k xs s fun ex s' => match ex with
    | .n => RunL P k ys s' Q
    | .x i => Q (.x i) s'
    | .r => Q .r s'
  | [], ys, s, h => h
  | c :: xs, ys, s, h => by
    refine Run.mono h fun ex s' h' => ?_
    cases ex with
    | n => exact runL_split h'
    | x i => exact h'
    | r => exact h'
theorem runL_one {c : Code} {s : St} {Q : Ex → St → Prop} (h : RunL P k [c] s Q) : Run P k c s Q := by
  refine Run.mono h fun ex s' h' => ?_
  cases ex with
  | n => exact h'
  | x i => exact h'
  | r => exact h'
theorem flat_run : ∀ {c : Code} {s : St} {Q : Ex → St → Prop}, RunL P k (flatC c) s Q → Run P k c s Q
  | .seq a b, s, Q, h => by
    refine Run.seq (flat_run (runL_split h)) (fun s1 h1 => flat_run h1) fun ex s1 hne h1 => ?_
    cases ex with
    | n => exact absurd rfl hne
    | x i => exact h1
    | r => exact h1
  | .skip, s, Q, h => runL_one h
  | .label _, s, Q, h => runL_one h
  | .exit _, s, Q, h => runL_one h
  | .ret, s, Q, h => runL_one h
  | .region _ _ _, s, Q, h => runL_one h
  | .cond _ _ _, s, Q, h => runL_one h
  | .block _ _, s, Q, h => runL_one h
  | .loop _, s, Q, h => runL_one h
  | .scope _, s, Q, h => runL_one h
  | .rangeFunc _ _ _ _, s, Q, h => runL_one h
  | .goto _, s, Q, h => runL_one h
  | .refuse _, s, Q, h => runL_one h
def okL (P : Program) (W : Nat → Option Road) (cs : List Code) : Bool := cs.all (codeOk P W)
theorem flat_ok : ∀ {c : Code}, codeOk P W c = true → okL P W (flatC c) = true
  | .seq a b, h => by
    simp only [codeOk, Bool.and_eq_true] at h
    rw [flatC, okL, List.all_append, Bool.and_eq_true]
    exact ⟨flat_ok h.1, flat_ok h.2⟩
  | .skip, h => by simp [flatC, okL, h]
  | .label _, h => by simp [flatC, okL, h]
  | .exit _, h => by simp [flatC, okL, h]
  | .ret, h => by simp [flatC, okL, h]
  | .region _ _ _, h => by simp [flatC, okL, h]
  | .cond _ _ _, h => by simp [flatC, okL, h]
  | .block _ _, h => by simp [flatC, okL, h]
  | .loop _, h => by simp [flatC, okL, h]
  | .scope _, h => by simp [flatC, okL, h]
  | .rangeFunc _ _ _ _, h => by simp [flatC, okL, h]
  | .goto _, h => by simp [flatC, okL, h]
  | .refuse _, h => by simp [flatC, okL, h]
theorem ok_hd (r : Nat) : ∀ {cs : List Code}, okL P W cs = true → okL P W (hdC r cs) = true
  | [], h => h
  | c :: cs, h => by
    simp only [okL, List.all_cons, Bool.and_eq_true] at h
    unfold hdC
    split
    · rfl
    · simp only [okL, List.all_cons, Bool.and_eq_true]
      exact ⟨h.1, ok_hd r h.2⟩
theorem ok_tl (r : Nat) : ∀ {cs : List Code}, okL P W cs = true → okL P W (tlC r cs) = true
  | [], h => h
  | c :: cs, h => by
    unfold tlC
    split
    · exact h
    · simp only [okL, List.all_cons, Bool.and_eq_true] at h
      exact ok_tl r h.2
theorem wpL_run (hT : Follows T Γ) (hΓ : Sound P Γ) (hm : P.follows .mixedOrders = true) {LA : Nat → Option Head} {Q : Ex → St → Prop} : ∀ {cs : List Code} {s : St}, okL P W cs = true → wpL P T W LA k cs s Q → RunL P k cs s Q
  | [], s, hok, h => by simpa only [wpL, RunL] using h
  | c :: cs, s, hok, h => by
    simp only [okL, List.all_cons, Bool.and_eq_true] at hok
    simp only [wpL] at h
    split at h
    · rename_i L hL
      obtain ⟨J, h1, h2⟩ := h
      have h2 := L.hall _ h2
      cases cs with
      | nil => simp [firstL] at hL
      | cons c' cs =>
        refine Run.mono (wpC_run hT hΓ hm hok.1 h1) fun ex s' hq => ?_
        cases ex with
        | n =>
          obtain ⟨a', k1, k2⟩ := L.G.spec _ _ hq
          exact RunL.wk k1.mask (by simp) (wpL_run hT hΓ hm hok.2 (h2 a' k2))
        | x i => exact hq
        | r => exact hq
    · refine Run.mono (wpC_run hT hΓ hm hok.1 h) fun ex s' hq => ?_
      cases ex with
      | n => exact wpL_run hT hΓ hm hok.2 hq
      | x i => exact hq
      | r => exact hq
theorem cut_part (hT : Follows T Γ) (hΓ : Sound P Γ) (hm : P.follows .mixedOrders = true) {LA : Nat → Option Head} {r : Nat} {cs : List Code} {s : St} {Q : Ex → St → Prop} (hok : okL P W cs = true) (hne : (tlC r cs).isEmpty = false) (L : Head) (Z : L.α → Prop)
    (h1 : Holds (wpL P T W LA k (hdC r cs) s (atHead k L Z Q))) (h2 : ∀ a, Z a → RunL P k (tlC r cs) (L.S a) Q) : RunL P k cs s Q := by
  rw [← hd_tl r cs]
  refine runL_append ((wpL_run hT hΓ hm (ok_hd r hok) h1.out).mono fun ex s' hs => ?_)
  cases ex with
  | n =>
    obtain ⟨a, k1, k2⟩ := L.G.spec _ _ hs
    exact RunL.wk k1.mask (fun e => by rw [e] at hne; cases hne) (h2 a k2)
  | x i => exact hs
  | r => exact hs
theorem cut_last (hT : Follows T Γ) (hΓ : Sound P Γ) (hm : P.follows .mixedOrders = true) {LA : Nat → Option Head} {cs : List Code} {s : St} {Q : Ex → St → Prop} (hok : okL P W cs = true) (h : Holds (wpL P T W LA k cs s Q)) : RunL P k cs s Q := wpL_run hT hΓ hm hok h.out
def RunF (P : Program) (k : Nat) (fn : Func) (args : List AV) (h : Hp) (R : AV → Hp → Prop) : Prop := Run P k (bodyOf fn) ⟨args ++ List.replicate (fn.ntmps - args.length) und, h⟩ (finQ P fn R)
theorem runF_of {fn : Func} {args : List AV} {h : Hp} {R : AV → Hp → Prop} (hw : RunL P k (flatC (bodyOf fn)) ⟨args ++ List.replicate (fn.ntmps - args.length) und, h⟩ (finQ P fn R)) : RunF P k fn args h R := flat_run hw
theorem runF_calls {f : FuncId} {fn : Func} (hf : fnOk1 P W f fn) {args : List AV} {h : Hp} {R : AV → Hp → Prop} (hw : RunF P k fn args h R)
    {own : Nat → Prop} {ρ : List Loc} {w : World} {vs : List Value} (H : HRel own ρ h w) (ha : VRels ρ args vs) :
    Calls P f vs.toArray w fun e w' => ∃ ρ' z r h', R r h' ∧ e = .returned z ∧ HRel own ρ' h' w' ∧ VRel ρ' r z ∧ Pin k ρ ρ' ∧ Keeps own w w' := by
  refine Run.calls (k := k) hf.1 hf.2.1 (hw.mono fun ex s' hq => ?_) H ha
  cases ex with
  | x i => exact hq.elim
  | n =>
    obtain ⟨rs, h1, h2⟩ := optQ_spec hq
    exact ⟨fun i e => (by cases e), rs, h1, h2⟩
  | r =>
    obtain ⟨rs, h1, h2⟩ := optQ_spec hq
    exact ⟨fun i e => (by cases e), rs, h1, h2⟩
theorem runF_true {f : FuncId} {fn : Func} (hf : fnOk1 P W f fn) {args : List AV} {h : Hp} (hw : RunF P k fn args h fun v _ => v = .bo true)
    {ρ : List Loc} {w : World} {vs : List Value} (H : HRel (w.heap.size ≤ ·) ρ h w) (ha : VRels ρ args vs) : Calls P f vs.toArray w fun e w' => e = .returned (.bool true) ∧ Below w.heap.size w w' := by
  refine (runF_calls hf hw H ha).mono fun e w' hp => ?_
  obtain ⟨ρ', z, r, h', rfl, rfl, _, h2, _, h4⟩ := hp
  cases h2
  exact ⟨rfl, h4.below⟩
theorem SoundF.flatR {f : FuncId} {fn : Func} (hf : fnOk1 P W f fn) {C : List AV → Hp → Option (AV × Hp)}
    (hC : ∀ args h r h', C args h = some (r, h') → h' = h ∧ r.under 0 = true ∧ ∃ (J : List Nat) (k : Nat), (∀ id ∈ J, id < h.length) ∧ RunF P k fn (rens J args) (pickH h J) fun v _ => v = r) : SoundF P f C := by
  intro args h r h' he own ρ w vs H ha
  obtain ⟨rfl, hu, J, k, hJ, hw⟩ := hC args h r h' he
  refine (runF_calls hf hw (H.pick hJ) (ha.ren J)).mono fun e w' hp => ?_
  obtain ⟨ρ', z, r', h0, rfl, rfl, k1, k2, k3, k4⟩ := hp
  have old : ∀ b, b < w.heap.size → w'.heap[b]? = w.heap[b]? := fun b hb => k4.block b (by omega)
  refine ⟨[], z, rfl, ?_, ?_, ⟨k4.os, k4.tape, k4.output, k4.size, fun b hb => k4.block b fun hle => hb (H.fresh b hle)⟩⟩
  · rw [List.append_nil]
    exact ⟨H.glob.keep k4.size (fun b _ hb => old b hb), H.len, fun b hb => H.fresh b (Nat.le_trans k4.size hb), fun id B l m1 m2 => (H.blk id B l m1 m2).old fun hs => old _ (H.lt id B l m1 m2 hs), H.ours, fun id B l m1 m2 m3 => Nat.lt_of_lt_of_le (H.lt id B l m1 m2 m3) k4.size, H.sep⟩
  · rw [List.append_nil]
    have h0 : VRel [] r' z := VRel.less (ρ := []) (σ := ρ') (by simpa using hu) (by simpa using k2)
    have := h0.more (ρ := []) ρ
    simpa using this
theorem SoundF.plainR {f : FuncId} {fn : Func} (hf : fnOk1 P W f fn) {α : Type} {mk : α → List AV} {ok : α → Prop} {rr : α → AV}
    (hu : ∀ x, AV.unders 0 (mk x) = true) (hr : ∀ x, (rr x).under 0 = true) (hrun : ∀ x, ok x → ∃ (k : Nat), RunF P k fn (mk x) [] fun v _ => v = rr x) : SoundF P f (Cof (Splain mk ok rr)) := by
  refine SoundF.flatR hf fun args h r h' he => ?_
  obtain ⟨rfl, x, rfl, hok, rfl⟩ := Cof_spec he
  obtain ⟨k, hw⟩ := hrun x hok
  refine ⟨rfl, hr x, [], k, by simp, ?_⟩
  rw [rens_flat _ (hu x)]
  exact hw
end
end Go.Proofs.Ytnfbgfmdjaodgaa.Eng
