/- The conditions of regions, of code, of loops; that they suffice. -/
import Derived.Test.YtnfbgfmdjaodgaaEngS
set_option linter.unusedVariables false
set_option linter.unusedSimpArgs false
namespace Go.Proofs.Ytnfbgfmdjaodgaa.Eng
open Go.RowKit

def forceV (v : AV) (K : AV → Prop) : Prop := match v with
  | .bad => K .bad
  | .bo b => K (.bo b)
  | .i k n => K (.i k n)
  | .s x => K (.s x)
  | .pn => K .pn
  | .p a b => K (.p a b)
  | .sn => K .sn
  | .sl a b c d e => K (.sl a b c d e)
  | .mn => K .mn
  | .m a => K (.m a)
  | .nf => K .nf
  | .ni => K .ni
  | .ic t x => K (.ic t x)
  | .fn f c => K (.fn f c)
  | .ag x => K (.ag x)
  | .tu x => K (.tu x)
theorem forceV_eq (v : AV) (K : AV → Prop) : forceV v K = K v := by cases v <;> rfl
noncomputable def forceVs (l : List AV) : (List AV → Prop) → Prop := List.rec (motive := fun _ => (List AV → Prop) → Prop) (fun K => K []) (fun x _ ih K => forceV x fun x' => ih fun r' => K (x' :: r')) l
theorem forceVs_eq : ∀ (l : List AV) (K : List AV → Prop), forceVs l K = K l
  | [], K => rfl
  | x :: r, K => by
    show forceV x (fun x' => forceVs r fun r' => K (x' :: r')) = _
    rw [forceV_eq, forceVs_eq r]
def forceB (B : Blk) (K : Blk → Prop) : Prop := match B with
  | .cells c wr => K (.cells c wr)
  | .map es => K (.map es)
  | .iter s p => K (.iter s p)
  | .dead => K .dead
theorem forceB_eq (B : Blk) (K : Blk → Prop) : forceB B K = K B := by cases B <;> rfl
noncomputable def forceBs (l : Hp) : (Hp → Prop) → Prop := List.rec (motive := fun _ => (Hp → Prop) → Prop) (fun K => K []) (fun x _ ih K => forceB x fun x' => ih fun r' => K (x' :: r')) l
theorem forceBs_eq : ∀ (l : Hp) (K : Hp → Prop), forceBs l K = K l
  | [], K => rfl
  | x :: r, K => by
    show forceB x (fun x' => forceBs r fun r' => K (x' :: r')) = _
    rw [forceB_eq, forceBs_eq r]
noncomputable def forceS (s : St) (K : St → Prop) : Prop := forceVs s.t fun t => forceBs s.h fun h => K ⟨t, h⟩
theorem forceS_eq (s : St) (K : St → Prop) : forceS s K = K s := by rw [forceS, forceVs_eq, forceBs_eq]
mutual
theorem AV.same_refl : ∀ (a : AV), AV.same a a = true
  | .bad => rfl
  | .bo a => by simp [AV.same]
  | .i k a => by simp [AV.same]
  | .s a => by simp [AV.same]
  | .pn => rfl
  | .p a b => by simp [AV.same]
  | .sn => rfl
  | .sl a b c d e => by simp [AV.same]
  | .mn => rfl
  | .m a => by simp [AV.same]
  | .nf => rfl
  | .ni => rfl
  | .ic t v => by simp [AV.same, AV.same_refl v]
  | .fn f c => by simp [AV.same, AV.sames_refl c]
  | .ag x => by simp [AV.same, AV.sames_refl x]
  | .tu x => by simp [AV.same, AV.sames_refl x]
theorem AV.sames_refl : ∀ (a : List AV), AV.sames a a = true
  | [] => rfl
  | x :: xs => by simp [AV.sames, AV.same_refl x, AV.sames_refl xs]
end
theorem Blk.same_refl (b : Blk) : Blk.same b b = true := by
  cases b <;> simp [Blk.same, AV.sames_refl]
theorem Hp.same_refl : ∀ (h : Hp), Hp.same h h = true
  | [] => rfl
  | x :: xs => by simp [Hp.same, Blk.same_refl x, Hp.same_refl xs]
theorem St.same_refl (s : St) : St.same s s = true := by simp [St.same, AV.sames_refl, Hp.same_refl]
section
variable (P : Program) (T : TEnv)
def wpGuard (ops : Array Oper) (s : St) (o : Oper) (run : St → Prop) (Q : St → Prop) : Prop :=
  match o.guard with
  | none => run s
  | some (j, b) => match (ops[j]?).bind (·.dst) with
    | some d => match s.t[d]? with
      | some (.bo c) => br c (br b (run ⟨s.t.set d (.bo true), s.h⟩) (Q ⟨putA (s.t.set d (.bo true)) o.dst und, s.h⟩)) (br b (Q ⟨putA (s.t.set d (.bo false)) o.dst und, s.h⟩) (run ⟨s.t.set d (.bo false), s.h⟩))
      | some .bad => False
      | _ => Q ⟨putA s.t o.dst und, s.h⟩
    | none => Q ⟨putA s.t o.dst und, s.h⟩
def wpP (ops : Array Oper) (s : St) (o : Oper) (Q : St → Prop) : Prop := wpGuard ops s o (fun s => wpPure P (ev s.t) o.op fun v => Q ⟨putA s.t o.dst v, s.h⟩) Q
def wpR (ops : Array Oper) (hh : Option Hp) (s : St) (o : Oper) (Q : St → Prop) : Prop := wpGuard ops s o (fun s => wpRead P (ev s.t) (hh.getD s.h) o.op fun v => Q ⟨putA s.t o.dst v, s.h⟩) Q
def wpE (ops : Array Oper) (s : St) (o : Oper) (Q : St → Prop) : Prop := wpGuard ops s o (fun s => wpEff P T (ev s.t) s.h o.op fun v h => Q ⟨putA s.t o.dst v, h⟩) Q
def wpStep (ops : Array Oper) (s : St) (o : Oper) (Q : St → Prop) : Prop :=
  match kindOf P o.op with
  | 0 => wpP P ops s o Q
  | 1 => wpR P ops none s o Q
  | _ => wpE P T ops s o Q
noncomputable def wpOps (ops : Array Oper) : List Oper → St → (St → Prop) → Prop
  | [], s, Q => Q s
  | o :: r, s, Q => wpStep P T ops s o fun s' => forceS s' fun s' => wpOps ops r s' Q
noncomputable def wpPlan (ops : Array Oper) (h0 : Hp) : Plan → St → (St → Prop) → Prop
  | .nil, s, Q => Q s
  | .pure k p, s, Q => match ops[k]? with
    | some o => wpP P ops s o fun s' => forceS s' fun s' => wpPlan ops h0 p s' Q
    | none => False
  | .any k p, s, Q => match ops[k]? with
    | some o => wpR P ops none s o fun s' => forceS s' fun s' => wpPlan ops h0 p s' Q
    | none => False
  | .old k p, s, Q => match ops[k]? with
    | some o => wpR P ops (some h0) s o fun s' => forceS s' fun s' => wpPlan ops h0 p s' Q
    | none => False
  | .eff k p, s, Q => match ops[k]? with
    | some o => wpE P T ops s o fun s' => forceS s' fun s' => wpPlan ops h0 p s' Q
    | none => False
  | .two k1 p1 k2 p2 p, s, Q => match ops[k1]?, ops[k2]? with
    | some o1, some o2 => wpE P T ops s o1 fun s' => forceS s' fun s' => wpPlan ops h0 p1 s' fun s1 => (wpE P T ops s o2 fun s' => forceS s' fun s' => wpPlan ops h0 p2 s' fun s2 => Holds (s1 = s2)) ∧ wpPlan ops h0 p s1 Q
    | _, _ => False
  | .pair k1 k2 p, s, Q => match ops[k1]?, ops[k2]? with
    | some o1, some o2 => br (pairOk P s o1 o2) (wpE P T ops s o1 fun s' => forceS s' fun s' => wpE P T ops s' o2 fun s' => forceS s' fun s' => wpPlan ops h0 p s' Q) False
    | _, _ => False
noncomputable def wpWay (ops : Array Oper) (y : Road) (s : St) (Q : St → Prop) : Prop :=
  match y.lock with
  | none => wpPlan P T ops [] y.rest s Q
  | some (fr, p) => wpPlan P T ops (oldX (idsOf s.t s.h fr) 0 s.h) p ⟨s.t, lockX (idsOf s.t s.h fr) 0 s.h⟩ fun s1 =>
      br (freshOk s1.h s.h.length && (idsOf s.t s.h fr).all (wrAt s1.h)) (wpPlan P T ops [] y.rest ⟨s1.t, mergeX (idsOf s.t s.h fr) 0 s.h s1.h⟩ Q) False
variable {P T}
theorem wpGuard_spec {ops : Array Oper} {s : St} {o : Oper} {f : St → Option St} {run : St → Prop} {Q : St → Prop} (hrun : ∀ s, run s → ∃ s', f s = some s' ∧ Q s')
    (h : wpGuard ops s o run Q) : ∃ s', (match wantedA ops s.t o with
      | some true => f s
      | some false => some ⟨putA s.t o.dst und, s.h⟩
      | none => none) = some s' ∧ Q s' := by
  have same : ∀ {d : Nat} {c : Bool}, s.t[d]? = some (.bo c) → (⟨s.t.set d (.bo c), s.h⟩ : St) = s := by
    intro d c h
    have : s.t.set d (.bo c) = s.t := by
      apply List.ext_getElem?
      intro i
      by_cases hi : d = i
      · subst hi
        have hlt := (List.getElem?_eq_some_iff.1 h).1
        rw [List.getElem?_set_self hlt, h]
      · rw [List.getElem?_set_ne hi]
    rw [this]
  unfold wpGuard at h
  unfold wantedA
  cases hg : o.guard with
  | none =>
    simp only [hg] at h
    exact hrun s h
  | some q =>
    obtain ⟨j, b⟩ := q
    simp only [hg] at h
    simp only
    cases hd : (ops[j]?).bind (·.dst) with
    | none =>
      simp only [hd] at h
      exact ⟨_, rfl, h⟩
    | some d =>
      simp only [hd] at h
      simp only
      split at h
      · rename_i c hc
        simp only [hc]
        have e := same hc
        have e2 : s.t.set d (.bo c) = s.t := congrArg St.t e
        cases c with
        | true =>
          have h : br b (run ⟨s.t.set d (.bo true), s.h⟩) (Q ⟨putA (s.t.set d (.bo true)) o.dst und, s.h⟩) := h
          rw [e, e2] at h
          cases b with
          | true => exact hrun s h
          | false => exact ⟨_, rfl, h⟩
        | false =>
          have h : br b (Q ⟨putA (s.t.set d (.bo false)) o.dst und, s.h⟩) (run ⟨s.t.set d (.bo false), s.h⟩) := h
          rw [e, e2] at h
          cases b with
          | true => exact ⟨_, rfl, h⟩
          | false => exact hrun s h
      · exact h.elim
      · rename_i h1 h2
        cases hx : s.t[d]? with
        | none => exact ⟨_, rfl, h⟩
        | some v => cases v with
          | bo c => exact (h1 c hx).elim
          | bad => exact (h2 hx).elim
          | _ => exact ⟨_, rfl, h⟩
theorem wpP_spec {ops : Array Oper} {s : St} {o : Oper} {Q : St → Prop} (h : wpP P ops s o Q) : ∃ s', pureOp P ops s o = some s' ∧ Q s' := by
  refine wpGuard_spec (f := fun s => match apure P (ev s.t) o.op with
    | some v => some ⟨putA s.t o.dst v, s.h⟩
    | none => none) (fun s hs => ?_) h
  obtain ⟨v, h1, h2⟩ := wpPure_spec P hs
  exact ⟨_, by simp only [h1], h2⟩
theorem wpR_spec {ops : Array Oper} {hh : Option Hp} {s : St} {o : Oper} {Q : St → Prop} (h : wpR P ops hh s o Q) : ∃ s', readOp P ops (hh.getD s.h) s o = some s' ∧ Q s' := by
  cases hh with
  | none =>
    refine wpGuard_spec (f := fun s => match aread P (ev s.t) s.h o.op with
      | some v => some ⟨putA s.t o.dst v, s.h⟩
      | none => none) (fun s hs => ?_) h
    obtain ⟨v, h1, h2⟩ := wpRead_spec P hs
    simp only [Option.getD_none] at h1
    exact ⟨_, by simp only [h1], h2⟩
  | some h0 =>
    refine wpGuard_spec (f := fun s => match aread P (ev s.t) h0 o.op with
      | some v => some ⟨putA s.t o.dst v, s.h⟩
      | none => none) (fun s hs => ?_) h
    obtain ⟨v, h1, h2⟩ := wpRead_spec P hs
    simp only [Option.getD_some] at h1
    exact ⟨_, by simp only [h1], h2⟩
theorem wpE_spec {Γ : Env} (hT : Follows T Γ) {ops : Array Oper} {s : St} {o : Oper} {Q : St → Prop} (h : wpE P T ops s o Q) : ∃ s', effOp P Γ ops s o = some s' ∧ Q s' := by
  refine wpGuard_spec (f := fun s => match aeff P Γ (ev s.t) s.h o.op with
    | some (v, h) => some ⟨putA s.t o.dst v, h⟩
    | none => none) (fun s hs => ?_) h
  obtain ⟨⟨v, h'⟩, h1, h2⟩ := wpEff_spec P hT hs
  exact ⟨_, by simp only [h1], h2⟩
theorem wpStep_spec {Γ : Env} (hT : Follows T Γ) {ops : Array Oper} {s : St} {o : Oper} {Q : St → Prop} (h : wpStep P T ops s o Q) : ∃ s', stepOp P Γ ops s o = some s' ∧ Q s' := by
  unfold wpStep at h
  unfold stepOp
  split at h
  · rename_i hk; simp only [hk]; exact wpP_spec h
  · rename_i hk
    have := wpR_spec h
    rw [Option.getD_none] at this
    simp only [hk]; exact this
  · rename_i h0 h1
    split
    · rename_i hk; exact absurd hk h0
    · rename_i hk; exact absurd hk h1
    · exact wpE_spec hT h
theorem wpOps_spec {Γ : Env} (hT : Follows T Γ) {ops : Array Oper} : ∀ {l : List Oper} {s : St} {Q : St → Prop}, wpOps P T ops l s Q → ∃ s', runOps P Γ ops l s = some s' ∧ Q s'
  | [], s, Q, h => ⟨s, rfl, h⟩
  | o :: r, s, Q, h => by
    obtain ⟨s1, h1, h2⟩ := wpStep_spec hT h
    rw [forceS_eq] at h2
    obtain ⟨s2, h3, h4⟩ := wpOps_spec hT h2
    exact ⟨s2, by simp only [runOps, h1, h3], h4⟩
theorem wpPlan_spec {Γ : Env} (hT : Follows T Γ) {ops : Array Oper} {h0 : Hp} : ∀ {p : Plan} {s : St} {Q : St → Prop}, wpPlan P T ops h0 p s Q → ∃ s', runPlan P Γ ops h0 p s = some s' ∧ Q s'
  | .nil, s, Q, h => ⟨s, rfl, h⟩
  | .pure k p, s, Q, h => by
    simp only [wpPlan] at h
    split at h
    · rename_i o ho
      obtain ⟨s1, h1, h2⟩ := wpP_spec h
      rw [forceS_eq] at h2
      obtain ⟨s2, h3, h4⟩ := wpPlan_spec hT h2
      exact ⟨s2, by simp only [runPlan, ho, h1, Option.bind_some, h3], h4⟩
    · exact h.elim
  | .any k p, s, Q, h => by
    simp only [wpPlan] at h
    split at h
    · rename_i o ho
      obtain ⟨s1, h1, h2⟩ := wpR_spec h
      rw [Option.getD_none] at h1
      rw [forceS_eq] at h2
      obtain ⟨s2, h3, h4⟩ := wpPlan_spec hT h2
      exact ⟨s2, by simp only [runPlan, ho, h1, Option.bind_some, h3], h4⟩
    · exact h.elim
  | .old k p, s, Q, h => by
    simp only [wpPlan] at h
    split at h
    · rename_i o ho
      obtain ⟨s1, h1, h2⟩ := wpR_spec h
      rw [Option.getD_some] at h1
      rw [forceS_eq] at h2
      obtain ⟨s2, h3, h4⟩ := wpPlan_spec hT h2
      exact ⟨s2, by simp only [runPlan, ho, h1, Option.bind_some, h3], h4⟩
    · exact h.elim
  | .eff k p, s, Q, h => by
    simp only [wpPlan] at h
    split at h
    · rename_i o ho
      obtain ⟨s1, h1, h2⟩ := wpE_spec hT h
      rw [forceS_eq] at h2
      obtain ⟨s2, h3, h4⟩ := wpPlan_spec hT h2
      exact ⟨s2, by simp only [runPlan, ho, h1, Option.bind_some, h3], h4⟩
    · exact h.elim
  | .two k1 p1 k2 p2 p, s, Q, h => by
    simp only [wpPlan] at h
    split at h
    · rename_i o1 o2 ho1 ho2
      obtain ⟨t1, h1, h2⟩ := wpE_spec hT h
      rw [forceS_eq] at h2
      obtain ⟨s1, h3, h4, h5⟩ := wpPlan_spec hT h2
      obtain ⟨t2, g1, g2⟩ := wpE_spec hT h4
      rw [forceS_eq] at g2
      obtain ⟨s2, g3, ⟨g4⟩⟩ := wpPlan_spec hT g2
      obtain ⟨s3, h6, h7⟩ := wpPlan_spec hT h5
      subst g4
      exact ⟨s3, by simp only [runPlan, ho1, ho2, h1, Option.bind_some, h3, g1, g3, St.same_refl, if_true, h6], h7⟩
    · exact h.elim
  | .pair k1 k2 p, s, Q, h => by
    simp only [wpPlan] at h
    split at h
    · rename_i o1 o2 ho1 ho2
      obtain ⟨hp, h⟩ := br_false_right h
      obtain ⟨s1, h1, h2⟩ := wpE_spec hT h
      rw [forceS_eq] at h2
      obtain ⟨s2, h3, h4⟩ := wpE_spec hT h2
      rw [forceS_eq] at h4
      obtain ⟨s3, h5, h6⟩ := wpPlan_spec hT h4
      exact ⟨s3, by simp only [runPlan, ho1, ho2, hp, if_true, h1, Option.bind_some, h3, h5], h6⟩
    · exact h.elim
theorem wpWay_spec {Γ : Env} (hT : Follows T Γ) {ops : Array Oper} {y : Road} {s : St} {Q : St → Prop} (h : wpWay P T ops y s Q) : ∃ s', runWay P Γ ops y s = some s' ∧ Q s' := by
  unfold wpWay at h
  unfold runWay
  cases hl : y.lock with
  | none =>
    simp only [hl] at h
    exact wpPlan_spec hT h
  | some q =>
    obtain ⟨fr, p⟩ := q
    simp only [hl] at h
    obtain ⟨s1, h1, h2⟩ := wpPlan_spec hT h
    obtain ⟨h3, h4⟩ := br_false_right h2
    obtain ⟨s2, h5, h6⟩ := wpPlan_spec hT h4
    exact ⟨s2, by simp only [h1, h3, if_true, h5], h6⟩
end

structure Get (α : Type) where
  run : St → (α → Prop) → Prop
  spec : ∀ s K, run s K → ∃ a, K a
def Get.un : Get Unit := ⟨fun _ K => K (), fun _ _ h => ⟨_, h⟩⟩
def Get.int (d : Nat) : Get Int := ⟨fun s K => match s.t.getD d und with
  | .i _ n => K n
  | _ => False, fun s K h => by
    split at h
    · exact ⟨_, h⟩
    · exact h.elim⟩
def Get.str (d : Nat) : Get ByteArray := ⟨fun s K => match s.t.getD d und with
  | .s n => K n
  | _ => False, fun s K h => by
    split at h
    · exact ⟨_, h⟩
    · exact h.elim⟩
def Get.boo (d : Nat) : Get Bool := ⟨fun s K => match s.t.getD d und with
  | .bo n => K n
  | _ => False, fun s K h => by
    split at h
    · exact ⟨_, h⟩
    · exact h.elim⟩
def Get.av (d : Nat) : Get AV := ⟨fun s K => K (s.t.getD d und), fun _ _ h => ⟨_, h⟩⟩
def Get.sl (d : Nat) : Get (Nat × List AV) := ⟨fun s K => match s.t.getD d und with
  | .sl id _ len _ _ => match s.h.getD id .dead with
    | .cells c _ => K (len, c)
    | _ => False
  | _ => False, fun s K h => by
    split at h
    · split at h
      · exact ⟨_, h⟩
      · exact h.elim
    · exact h.elim⟩
def Get.row (d : Nat) : Get (List AV) := ⟨fun s K => match s.t.getD d und with
  | .p id _ => match s.h.getD id .dead with
    | .cells c _ => K c
    | _ => False
  | _ => False, fun s K h => by
    split at h
    · split at h
      · exact ⟨_, h⟩
      · exact h.elim
    · exact h.elim⟩
def Get.rowAt (id : Nat) : Get (List AV) := ⟨fun s K => match s.h.getD id .dead with
    | .cells c _ => K c
    | _ => False, fun s K h => by
    split at h
    · exact ⟨_, h⟩
    · exact h.elim⟩
def Get.pos (id : Nat) : Get Nat := ⟨fun s K => match s.h.getD id .dead with
  | .iter _ p => K p
  | _ => False, fun s K h => by
    split at h
    · exact ⟨_, h⟩
    · exact h.elim⟩
def Get.and {α β : Type} (a : Get α) (b : Get β) : Get (α × β) := ⟨fun s K => a.run s fun x => b.run s fun y => K (x, y), fun s K h => by
  obtain ⟨x, h⟩ := a.spec _ _ h
  obtain ⟨y, h⟩ := b.spec _ _ h
  exact ⟨_, h⟩⟩
def Get.alt {α β : Type} (t : St → Bool) (a : Get α) (b : Get β) : Get (α ⊕ β) := ⟨fun s K => br (t s) (a.run s fun x => K (.inl x)) (b.run s fun y => K (.inr y)), fun s K h => by
  rcases br_elim h with ⟨_, h⟩ | ⟨_, h⟩
  · obtain ⟨x, h⟩ := a.spec _ _ h; exact ⟨_, h⟩
  · obtain ⟨x, h⟩ := b.spec _ _ h; exact ⟨_, h⟩⟩
structure Head where
  α : Type
  S : α → St
  G : Get α
  all : (α → Prop) → Prop
  hall : ∀ K, all K → ∀ a, K a
def Head.one {α : Type} (G : Get α) (S : α → St) : Head := ⟨α, S, G, fun K => ∀ a, K a, fun _ h => h⟩
def Head.two {α β : Type} (t : St → Bool) (G1 : Get α) (S1 : α → St) (G2 : Get β) (S2 : β → St) : Head := ⟨α ⊕ β, fun x => match x with
  | .inl a => S1 a
  | .inr b => S2 b, Get.alt t G1 G2, fun K => (∀ a, K (.inl a)) ∧ (∀ b, K (.inr b)), fun K h a => by
    cases a
    · exact h.1 _
    · exact h.2 _⟩
def Head.alt (t : St → Bool) (H1 H2 : Head) : Head := ⟨H1.α ⊕ H2.α, fun x => match x with
  | .inl a => H1.S a
  | .inr b => H2.S b, Get.alt t H1.G H2.G, fun K => H1.all (fun a => K (.inl a)) ∧ H2.all (fun b => K (.inr b)), fun K h a => by
    cases a
    · exact H1.hall _ h.1 _
    · exact H2.hall _ h.2 _⟩
def nilAt (d : Nat) (s : St) : Bool := match s.t.getD d und with
  | .sn => true
  | _ => false
def maskT : List AV → List AV → List AV
  | x :: xs, .bad :: ys => .bad :: maskT xs ys
  | x :: xs, _ :: ys => x :: maskT xs ys
  | xs, _ => xs
theorem maskT_less : ∀ (xs ys : List AV), Less xs (maskT xs ys)
  | [], ys => by cases ys <;> exact Less.nil
  | x :: xs, [] => Less.refl _
  | x :: xs, y :: ys => by
    cases y
    case bad => exact .bad x (maskT_less xs ys)
    all_goals exact .same x (maskT_less xs ys)
def maskS (y x : St) : St := ⟨maskT x.t y.t, x.h⟩
theorem Wk.mask {k : Nat} {x y : St} (h : Wk k (maskS y x) y) : Wk k x y := (Wk.less (maskT_less x.t y.t)).trans h
def firstReg : Code → Option Nat
  | .region id _ _ => some id
  | .seq a b => (firstReg a).or (firstReg b)
  | .cond _ a b => (firstReg a).or (firstReg b)
  | .block _ c => firstReg c
  | .loop c => firstReg c
  | .scope c => firstReg c
  | _ => none
def iter (f : St → (Ex → St → Prop) → Prop) : Nat → St → (Ex → St → Prop) → Prop
  | 0, _, _ => False
  | n + 1, s, Q => f s fun ex s' => match ex with
    | .n => iter f n s' Q
    | .x i => Q (.x i) s'
    | .r => Q .r s'
noncomputable def wpC (P : Program) (T : TEnv) (W : Nat → Option Road) (LA : Nat → Option Head) (k : Nat) : Code → St → (Ex → St → Prop) → Prop
  | .skip, s, Q => Q .n s
  | .label _, s, Q => Q .n s
  | .region id ops draw, s, Q => match draw with
    | true => wpWay P T ops (wayOf P W id ops) s fun s' => forceS s' (Q .n)
    | false => wpOps P T ops ops.toList s fun s' => forceS s' (Q .n)
  | .seq a b, s, Q => match (firstReg b).bind fun r => LA (1000 + r) with
    | some L => ∃ J : L.α → Prop, wpC P T W LA k a s (fun ex s' => match ex with
        | .n => L.G.run s' fun a' => Wk k (maskS (L.S a') s') (L.S a') ∧ J a'
        | .x i => Q (.x i) s'
        | .r => Q .r s') ∧ L.all fun a' => J a' → wpC P T W LA k b (L.S a') Q
    | none => wpC P T W LA k a s fun ex s' => match ex with
      | .n => wpC P T W LA k b s' Q
      | .x i => Q (.x i) s'
      | .r => Q .r s'
  | .cond c x y, s, Q => match ev s.t c with
    | .bo b => br b (wpC P T W LA k x s Q) (wpC P T W LA k y s Q)
    | _ => False
  | .block id c, s, Q => wpC P T W LA k c s fun ex s' => match ex with
    | .n => Q .n s'
    | .x i => br (decide (i = id)) (Q .n s') (Q (.x i) s')
    | .r => Q .r s'
  | .loop c, s, Q => match (firstReg c).bind LA with
    | some L => L.G.run s fun a => Wk k (maskS (L.S a) s) (L.S a) ∧ ∃ (I : Nat → L.α → Prop) (n : Nat), I n a ∧ L.all fun a => ∀ n, I n a → wpC P T W LA k c (L.S a) fun ex s' => match ex with
      | .n => L.G.run s' fun a' => Wk k (maskS (L.S a') s') (L.S a') ∧ ∃ m, Holds (m < n) ∧ I m a'
      | .x i => Q (.x i) s'
      | .r => Q .r s'
    | none => iter (fun s Q => wpC P T W LA k c s Q) 40 s Q
  | .exit i, s, Q => Q (.x i) s
  | .ret, s, Q => Q .r s
  | .scope c, s, Q => wpC P T W LA k c s Q
  | _, _, _ => False
theorem wpC_run {P : Program} {T : TEnv} {W : Nat → Option Road} {LA : Nat → Option Head} {k : Nat} {Γ : Env} (hT : Follows T Γ) (hΓ : Sound P Γ) (hm : P.follows .mixedOrders = true) : ∀ {c : Code} {s : St} {Q : Ex → St → Prop}, codeOk P W c = true → wpC P T W LA k c s Q → Run P k c s Q
  | .skip, s, Q, _, h => Run.skip h
  | .label l, s, Q, _, h => fun own ρ a w H ht => wp_label ⟨.n, s, ρ, h, trivial, H, ht, Pin.refl _ _, Keeps.refl _ _, rfl⟩
  | .exit i, s, Q, _, h => Run.exit h
  | .ret, s, Q, _, h => Run.ret h
  | .region id ops draw, s, Q, hok, h => by
    simp only [wpC] at h
    cases draw with
    | true =>
      obtain ⟨s', h1, h2⟩ := wpWay_spec hT h
      rw [forceS_eq] at h2
      exact Run.exec hΓ hm hok (F := 0) (exec_way h1) h2
    | false =>
      obtain ⟨s', h1, h2⟩ := wpOps_spec hT h
      rw [forceS_eq] at h2
      exact Run.exec hΓ hm hok (F := 0) (exec_reg h1) h2
  | .seq a b, s, Q, hok, h => by
    simp only [codeOk, Bool.and_eq_true] at hok
    simp only [wpC] at h
    split at h
    · rename_i L hL
      obtain ⟨J, h1, h2⟩ := h
      have h2 := L.hall _ h2
      refine Run.seq (Q1 := fun ex s' => match ex with
        | .n => ∃ a', s' = L.S a' ∧ J a'
        | .x i => Q (.x i) s'
        | .r => Q .r s') ((wpC_run hT hΓ hm hok.1 h1).post fun ex s' hq => ?_) (fun s1 h1 => ?_) fun ex s1 hne h1 => ?_
      · cases ex with
        | n =>
          obtain ⟨a', k1, k2⟩ := L.G.spec _ _ hq
          exact ⟨L.S a', k1.mask, a', rfl, k2⟩
        | x i => exact ⟨s', Wk.refl _ _, hq⟩
        | r => exact ⟨s', Wk.refl _ _, hq⟩
      · obtain ⟨a', rfl, hj⟩ := h1
        exact wpC_run hT hΓ hm hok.2 (h2 a' hj)
      · cases ex with
        | n => exact absurd rfl hne
        | x i => exact h1
        | r => exact h1
    · refine Run.seq (wpC_run hT hΓ hm hok.1 h) (fun s1 h1 => wpC_run hT hΓ hm hok.2 h1) fun ex s1 hne h1 => ?_
      cases ex with
      | n => exact absurd rfl hne
      | x i => exact h1
      | r => exact h1
  | .cond c x y, s, Q, hok, h => by
    simp only [codeOk, Bool.and_eq_true] at hok
    simp only [wpC] at h
    split at h
    · rename_i b hb
      refine Run.cond hb (fun e => ?_) (fun e => ?_)
      · subst e; exact wpC_run hT hΓ hm hok.1 h
      · subst e; exact wpC_run hT hΓ hm hok.2 h
    · exact h.elim
  | .block id c, s, Q, hok, h => by
    simp only [codeOk] at hok
    simp only [wpC] at h
    refine Run.block ((wpC_run hT hΓ hm hok h).mono fun ex s' hq => ?_)
    cases ex with
    | n => exact hq
    | r => exact hq
    | x i =>
      simp only at hq ⊢
      by_cases e : i = id
      · rw [if_pos e]; subst e; simp only [decide_true] at hq; exact hq
      · rw [if_neg e]; simp only [e, decide_false] at hq; exact hq
  | .loop c, s, Q, hok, h => by
    simp only [codeOk] at hok
    simp only [wpC] at h
    split at h
    · rename_i L hL
      obtain ⟨a, hw, I, n, h0, hI⟩ := L.G.spec _ _ h
      have hI := L.hall _ hI
      refine Run.wk hw.mask (Run.loop (fun n s => ∃ a, I n a ∧ s = L.S a) n ⟨a, h0, rfl⟩ ?_)
      rintro n s ⟨a, ha, rfl⟩
      refine (wpC_run hT hΓ hm hok (hI a n ha)).post fun ex s' hq => ?_
      cases ex with
      | n =>
        obtain ⟨a', k1, m, k2, k3⟩ := L.G.spec _ _ hq
        exact ⟨L.S a', k1.mask, m, k2.out, a', k3, rfl⟩
      | x i => exact ⟨s', Wk.refl _ _, hq⟩
      | r => exact ⟨s', Wk.refl _ _, hq⟩
    · refine Run.loop (fun n s => iter (fun s Q => wpC P T W LA k c s Q) n s Q) 40 h fun n s hi => ?_
      cases n with
      | zero => exact hi.elim
      | succ n =>
        refine (wpC_run hT hΓ hm hok hi).mono fun ex s' hq => ?_
        cases ex with
        | n => exact ⟨n, Nat.lt_succ_self n, hq⟩
        | x i => exact hq
        | r => exact hq
  | .scope c, s, Q, hok, h => by
    simp only [codeOk] at hok
    simp only [wpC] at h
    exact Run.scope (wpC_run hT hΓ hm hok h)
  | .rangeFunc _ _ _ _, _, _, _, h => by simp only [wpC] at h
  | .goto _, _, _, _, h => by simp only [wpC] at h
  | .refuse _, _, _, _, h => by simp only [wpC] at h
noncomputable def wpFn (P : Program) (T : TEnv) (W : Nat → Option Road) (LA : Nat → Option Head) (k : Nat) (fn : Func) (args : List AV) (h : Hp) (R : AV → Hp → Prop) : Prop :=
  wpC P T W LA k (bodyOf fn) ⟨args ++ List.replicate (fn.ntmps - args.length) und, h⟩ fun ex s => match ex with
    | .x _ => False
    | .n => optQ (resultsA P s fn.results.toList) fun rs => R (joinA rs) s.h
    | .r => optQ (resultsA P s fn.results.toList) fun rs => R (joinA rs) s.h
theorem wk_and {k : Nat} {s : St} {A : Prop} : (Wk k s s ∧ A) = A := propext ⟨And.right, fun h => ⟨Wk.refl _ _, h⟩⟩
theorem gcR_one {j : Nat} {h : Hp} {c : List AV} {wr : Bool} (hj : h[j]? = some (.cells c wr)) (hu : AV.unders 0 c = true) : gcR [j] h = [.cells c wr] := by
  simp only [gcR, List.map_cons, List.map_nil, List.getD_eq_getElem?_getD, hj, Option.getD_some, reB_flat _ hu]
theorem gcR_two {i j : Nat} {h : Hp} {c d : List AV} {wr wr' : Bool} (hi : h[i]? = some (.cells c wr)) (hu : AV.unders 0 c = true) (hj : h[j]? = some (.cells d wr')) (hu' : AV.unders 0 d = true) : gcR [i, j] h = [.cells c wr, .cells d wr'] := by
  simp only [gcR, List.map_cons, List.map_nil, List.getD_eq_getElem?_getD, hi, hj, Option.getD_some, reB_flat _ hu, reB_flat _ hu']
theorem gcR_three {i j l : Nat} {h : Hp} {c d e : List AV} {wr wr' wr'' : Bool} (hi : h[i]? = some (.cells c wr)) (hu : AV.unders 0 c = true) (hj : h[j]? = some (.cells d wr')) (hu' : AV.unders 0 d = true)
    (hl : h[l]? = some (.cells e wr'')) (hu'' : AV.unders 0 e = true) : gcR [i, j, l] h = [.cells c wr, .cells d wr', .cells e wr''] := by
  simp only [gcR, List.map_cons, List.map_nil, List.getD_eq_getElem?_getD, hi, hj, hl, Option.getD_some, reB_flat _ hu, reB_flat _ hu', reB_flat _ hu'']
theorem Wk.rows {k : Nat} {t t' : List AV} {h h' : Hp} (J : List Nat) (hn : J.Nodup) (hJ : J.all (fun id => decide (id < h.length)) = true) (hk : J.take k = List.range k) (hh : gcR J h = h') (ht : reAs (posOf J) t = t') : Wk k ⟨t, h⟩ ⟨t', h'⟩ :=
  Wk.gc J hn hJ hk hh (ht ▸ Less.refl _)
def tcons (f : FuncId) (t : List AV → Hp → (AV → Hp → Prop) → Prop) (T : TEnv) : TEnv := fun g args h K => br (g == f) (t args h K) (T g args h K)
def tnil : TEnv := fun _ _ _ _ => False
theorem follows_nil (Γ : Env) : Follows tnil Γ := fun _ _ _ _ h => h.elim
def FollowsF (t : List AV → Hp → (AV → Hp → Prop) → Prop) (C : List AV → Hp → Option (AV × Hp)) : Prop := ∀ args h K, t args h K → ∃ r h', C args h = some (r, h') ∧ K r h'
theorem follows_cons {f : FuncId} {t : List AV → Hp → (AV → Hp → Prop) → Prop} {C : List AV → Hp → Option (AV × Hp)} {T : TEnv} {Γ : Env} (h1 : FollowsF t C) (h2 : Follows T Γ) : Follows (tcons f t T) (with1 f C Γ) := by
  intro g args h K hk
  unfold with1
  rcases br_elim hk with ⟨e, hk⟩ | ⟨e, hk⟩
  · rw [if_pos (by simpa using e)]; exact h1 args h K hk
  · rw [if_neg (by simpa using e)]; exact h2 g args h K hk
def fnOk1 (P : Program) (W : Nat → Option Road) (f : FuncId) (fn : Func) : Prop := P.funcs[f]? = some fn ∧ fn.body = some (bodyOf fn) ∧ (fn.name == "runtime.NumGoroutine") = false ∧ codeOk P W (bodyOf fn) = true
theorem fnOk1.ok {P : Program} {W : Nat → Option Road} {f : FuncId} {fn : Func} (h : fnOk1 P W f fn) : FnOk P f := ⟨fn, h.1, by rw [h.2.1]; rfl, h.2.2.1⟩
section
variable {P : Program} {T : TEnv} {W : Nat → Option Road} {Γ : Env}
theorem wpFn_calls (hT : Follows T Γ) (hΓ : Sound P Γ) (hm : P.follows .mixedOrders = true) {f : FuncId} {fn : Func} (hf : fnOk1 P W f fn) {LA : Nat → Option Head} {k : Nat} {args : List AV} {h : Hp} {R : AV → Hp → Prop} (hw : wpFn P T W LA k fn args h R)
    {own : Nat → Prop} {ρ : List Loc} {w : World} {vs : List Value} (H : HRel own ρ h w) (ha : VRels ρ args vs) :
    Calls P f vs.toArray w fun e w' => ∃ ρ' z r h', R r h' ∧ e = .returned z ∧ HRel own ρ' h' w' ∧ VRel ρ' r z ∧ Pin k ρ ρ' ∧ Keeps own w w' := by
  refine Run.calls (k := k) hf.1 hf.2.1 ((wpC_run hT hΓ hm hf.2.2.2 hw).mono fun ex s' hq => ?_) H ha
  cases ex with
  | x i => exact hq.elim
  | n =>
    obtain ⟨rs, h1, h2⟩ := optQ_spec hq
    exact ⟨fun i e => (by cases e), rs, h1, h2⟩
  | r =>
    obtain ⟨rs, h1, h2⟩ := optQ_spec hq
    exact ⟨fun i e => (by cases e), rs, h1, h2⟩
theorem SoundF.flat (hT : Follows T Γ) (hΓ : Sound P Γ) (hm : P.follows .mixedOrders = true) {f : FuncId} {fn : Func} (hf : fnOk1 P W f fn) {C : List AV → Hp → Option (AV × Hp)}
    (hC : ∀ args h r h', C args h = some (r, h') → h' = h ∧ r.under 0 = true ∧ ∃ (J : List Nat) (LA : Nat → Option Head) (k : Nat), (∀ id ∈ J, id < h.length) ∧ wpFn P T W LA k fn (rens J args) (pickH h J) fun v _ => v = r) : SoundF P f C := by
  intro args h r h' he own ρ w vs H ha
  obtain ⟨rfl, hu, J, LA, k, hJ, hw⟩ := hC args h r h' he
  refine (wpFn_calls hT hΓ hm hf hw (H.pick hJ) (ha.ren J)).mono fun e w' hp => ?_
  obtain ⟨ρ', z, r', h0, rfl, rfl, k1, k2, k3, k4⟩ := hp
  have old : ∀ b, b < w.heap.size → w'.heap[b]? = w.heap[b]? := fun b hb => k4.block b (by omega)
  refine ⟨[], z, rfl, ?_, ?_, ⟨k4.os, k4.tape, k4.output, k4.size, fun b hb => k4.block b fun hle => hb (H.fresh b hle)⟩⟩
  · rw [List.append_nil]
    exact ⟨H.glob.keep k4.size (fun b _ hb => old b hb), H.len, fun b hb => H.fresh b (Nat.le_trans k4.size hb), fun id B l m1 m2 => (H.blk id B l m1 m2).old fun hs => old _ (H.lt id B l m1 m2 hs), H.ours, fun id B l m1 m2 m3 => Nat.lt_of_lt_of_le (H.lt id B l m1 m2 m3) k4.size, H.sep⟩
  · rw [List.append_nil]
    have h0 : VRel [] r' z := VRel.less (ρ := []) (σ := ρ') (by simpa using hu) (by simpa using k2)
    have := h0.more (ρ := []) ρ
    simpa using this
theorem SoundF.laid (hT : Follows T Γ) (hΓ : Sound P Γ) (hm : P.follows .mixedOrders = true) {f : FuncId} {fn : Func} (hf : fnOk1 P W f fn) {C : List AV → Hp → Option (AV × Hp)}
    (hC : ∀ args h r h', C args h = some (r, h') → ∃ (J : List Nat) (LA : Nat → Option Head) (r0 : AV) (new : Hp), (∀ id ∈ J, id < h.length) ∧ r = reA (backN J h.length) r0 ∧
      h' = h ++ new ∧ new.all (fun B => B.wrB && match B with | .cells c _ => AV.unders 0 c | _ => false) = true ∧
      wpFn P T W LA J.length fn (rens J args) (pickH h J) fun v h1 => ∃ t1 h0, h0.length = J.length ∧ Wk J.length ⟨[v], h1⟩ ⟨[t1], h0 ++ new⟩ ∧ t1 = r0) : SoundF P f C := by
  intro args h r h' he own ρ w vs H ha
  obtain ⟨J, LA, r0, new, hJ, rfl, rfl, hnew, hw⟩ := hC args h r h' he
  refine (wpFn_calls hT hΓ hm hf hw (H.pick hJ) (ha.ren J)).mono fun e w' hp => ?_
  obtain ⟨ρ', z, r', h1, ⟨t1, h0, hl0, hk, rfl⟩, rfl, k1, k2, k3, k4⟩ := hp
  obtain ⟨ρ2, m1, ⟨z', _, hz, m2, hn⟩, m3⟩ := hk.run _ ρ' w' [z] k1 ⟨z, [], rfl, k2, rfl⟩
  cases hz
  obtain ⟨σ, q1, q2, q3⟩ := laid_core H hJ hnew hl0 m1 m2 (k3.trans m3) k4
  exact ⟨σ, z, rfl, q1, q2, q3⟩
def Cconst (r : AV) : List AV → Hp → Option (AV × Hp) := fun args h => match args with
  | [] => some (r, h)
  | _ => none
def tconst (r : AV) : List AV → Hp → (AV → Hp → Prop) → Prop := fun args h K => match args with
  | [] => K r h
  | _ => False
theorem follows_const (r : AV) : FollowsF (tconst r) (Cconst r) := by
  intro args h K hk
  cases args with
  | nil => exact ⟨r, h, rfl, hk⟩
  | cons x xs => exact hk.elim
theorem SoundF.const (hΓ : Sound P Γ) {f : FuncId} {r : AV} {h' : Hp} (he : Γ f [] [] = some (r, h')) (hu : r.under 0 = true) (hf : FnOk P f := by exact fnOkB_ok (by kernel_rfl)) : SoundF P f (Cconst r) := by
  intro args h v h2 hc own ρ w vs H ha
  cases args with
  | cons x xs => cases hc
  | nil =>
    cases hc
    cases ha
    refine (calls_nothing hΓ he (vs := []) rfl w hf H.glob.over).mono fun e w' hp => ?_
    obtain ⟨σ, z, rfl, k1, k2, k3⟩ := hp
    have k4 : Keeps own w w' := ⟨k3.1, k3.2, k3.3, k3.4, fun b hb => k3.5 b (Nat.lt_of_not_le fun hle => hb (H.fresh b hle))⟩
    have old : ∀ b, b < w.heap.size → w'.heap[b]? = w.heap[b]? := fun b hb => k3.5 b hb
    refine ⟨[], z, rfl, ?_, ?_, k4⟩
    · rw [List.append_nil]
      exact ⟨H.glob.keep k4.size (fun b _ hb => old b hb), H.len, fun b hb => H.fresh b (Nat.le_trans k4.size hb), fun id B l m1 m2 => (H.blk id B l m1 m2).old fun hs => old _ (H.lt id B l m1 m2 hs), H.ours, fun id B l m1 m2 m3 => Nat.lt_of_lt_of_le (H.lt id B l m1 m2 m3) k4.size, H.sep⟩
    · rw [List.append_nil]
      have h0 : VRel [] r z := VRel.less (ρ := []) (σ := σ) (by simpa using hu) (by simpa using k2)
      have := h0.more (ρ := []) ρ
      simpa using this
end
end Go.Proofs.Ytnfbgfmdjaodgaa.Eng
