/- A region that draws its order: what a plan answers is what each order answers. -/
import Derived.Test.YtnfbgfmdjaodgaaEngL
set_option linter.unusedVariables false
set_option linter.unusedSimpArgs false
namespace Go.Proofs.Ytnfbgfmdjaodgaa.Eng
open Go.RowKit

section
variable {P : Program} {ops : Array Oper} {Q : Exit → Act → World → Prop}

def Old (N : Nat → Prop) (w w' : World) : Prop := ∀ b, N b → w'.heap[b]? = w.heap[b]?
theorem Old.refl (N : Nat → Prop) (w : World) : Old N w w := fun _ _ => rfl
theorem Old.trans {N : Nat → Prop} {a b c : World} (h : Old N a b) (k : Old N b c) : Old N a c := fun i hi => (k i hi).trans (h i hi)
def Stay (N : Nat → Prop) (d1 d2 : List Nat) (i : Nat) (w w' : World) : Prop := (i ∉ d2 → Old N w w') ∧ (i ∉ d2 → i ∉ d1 → w' = w)
theorem Stay.refl (N : Nat → Prop) (d1 d2 : List Nat) (i : Nat) (w : World) : Stay N d1 d2 i w w := ⟨fun _ => Old.refl _ _, fun _ _ => rfl⟩

def ListedClosed (ops : Array Oper) (listed : Array Bool) : Prop :=
  ∀ j oj, ops[j]? = some oj → listed.getD j false = true → ∀ e ∈ oj.after, Region.binds .any e = true → listed.getD e.on false = true
theorem ListedClosed.set {listed : Array Bool} {i : Nat} (h : ListedClosed ops listed) (hi : i ∈ Region.ready .any ops listed) : ListedClosed ops (listed.setIfInBounds i true) := by
  obtain ⟨_, oi, hoi, hall⟩ := mem_ready.1 hi
  intro j oj hj hl e he hb
  by_cases hij : i = j
  · subst hij
    have : oj = oi := Option.some.inj (hj.symm.trans hoi)
    subst this
    exact getD_set_true (hall e he hb)
  · rw [getD_set_ne false hij] at hl
    exact getD_set_true (h j oj hj hl e he hb)
theorem reach_listed {listed : Array Bool} {i : Nat} (hc : ListedClosed ops listed) : ∀ (fuel d : Nat), reachB ops i fuel d = true → listed.getD d false = true → listed.getD i false = true
  | 0, _, h, _ => by simp [reachB] at h
  | fuel + 1, d, h, hl => by
    unfold reachB at h
    cases ho : ops[d]? with
    | none => rw [ho] at h; simp at h
    | some o =>
      rw [ho] at h
      obtain ⟨e, he, h1⟩ := Array.any_eq_true'.1 h
      simp only [Bool.and_eq_true, Bool.or_eq_true, beq_iff_eq] at h1
      have hle := hc d o ho hl e he h1.1
      rcases h1.2 with h2 | h2
      · rw [← h2]; exact hle
      · exact reach_listed hc fuel e.on h2 hle
theorem unlisted {listed : Array Bool} {i : Nat} (hun : listed.getD i true = false) (hl : listed.getD i false = true) : False := by
  rcases Nat.lt_or_ge i listed.size with h' | h'
  · simp [h'] at hun hl
    rw [hun] at hl
    cases hl
  · simp [Array.getElem?_eq_none h'] at hun
theorem reach_not_ready {listed : Array Bool} {i d fuel : Nat} (hc : ListedClosed ops listed) (hr : reachB ops i fuel d = true) (hun : listed.getD i true = false) : d ∉ Region.ready .any ops listed := by
  intro hd
  obtain ⟨_, o, ho, hall⟩ := mem_ready.1 hd
  cases fuel with
  | zero => simp [reachB] at hr
  | succ n =>
    unfold reachB at hr
    rw [ho] at hr
    obtain ⟨e, he, h1⟩ := Array.any_eq_true'.1 hr
    simp only [Bool.and_eq_true, Bool.or_eq_true, beq_iff_eq] at h1
    have hle := hall e he h1.1
    rcases h1.2 with h2 | h2
    · rw [h2] at hle; exact unlisted hun hle
    · exact unlisted hun (reach_listed hc n e.on h2 hle)

def wpAnyE (P : Program) (ops : Array Oper) (Q : Exit → Act → World → Prop) (N : Nat → Prop) (d1 d2 : List Nat) : Nat → Array Bool → Act → World → Prop
  | 0, listed, a, w => Region.ready .any ops listed = [] ∧ Q .normal a w
  | fuel + 1, listed, a, w =>
    (Region.ready .any ops listed = [] → Q .normal a w) ∧
    ∀ i ∈ Region.ready .any ops listed, wpOp P ops Q i (fun a' w' => Stay N d1 d2 i w w' ∧ wpAnyE P ops Q N d1 d2 fuel (listed.setIfInBounds i true) a' w') a w
variable {N : Nat → Prop} {d1 d2 : List Nat}
theorem wpAny_of_E : ∀ (fuel : Nat) (listed : Array Bool) (a : Act) (w : World), wpAnyE P ops Q N d1 d2 fuel listed a w → wpAny P .any ops Q fuel listed a w
  | 0, _, _, _, h => h
  | fuel + 1, _, _, _, h => ⟨h.1, fun i hi => wpOp_mono (fun a' w' h' => wpAny_of_E fuel _ a' w' h'.2) (h.2 i hi)⟩

theorem wpAnyE_first {S : World → Prop} {ds : List Nat} {i : Nat} {oi : Oper} {v : Value} (hi : ops[i]? = some oi) (hsel : ∀ (j : Nat) (o : Oper) cs b, ops[j]? = some o → o.op ≠ .select cs b)
    (hQ : ∀ c a w, Q (.panic c) (a.put oi.dst v) w → Q (.panic c) a w) (hS' : ∀ j, j ∉ ds → ∀ w1 w2, Stay N d1 d2 j w1 w2 → S w1 → S w2) (n : Nat) :
    ∀ (fuel : Nat) (listed : Array Bool) (a : Act) (w : World),
      (∀ j oj, ops[j]? = some oj → j ≠ i → listed.getD j true = false → (∀ e ∈ oj.after, Region.binds .any e = true → e.on ≠ i) → oi.apart ops oj = true) →
      ListedClosed ops listed → (∀ d ∈ ds, listed.getD d true = false → reachB ops i n d = true) →
      i ∈ Region.ready .any ops listed → YieldsIf P ops S oi v a → S w →
      wpAnyE P ops Q N d1 d2 fuel (listed.setIfInBounds i true) (a.put oi.dst v) w → wpAnyE P ops Q N d1 d2 (fuel + 1) listed a w := by
  intro fuel
  induction fuel with
  | zero =>
    intro listed a w _ _ _ hr hy hS H
    refine ⟨fun h => (by rw [h] at hr; cases hr), fun j hj => ?_⟩
    by_cases hji : j = i
    · subst hji; exact hy.wpOp hi hS ⟨Stay.refl _ _ _ _ _, H⟩
    · have := ready_mono hj hji
      rw [H.1] at this
      cases this
  | succ fuel ih =>
    intro listed a w hfree hc hd hr hy hS H
    refine ⟨fun h => (by rw [h] at hr; cases hr), fun j hj => ?_⟩
    by_cases hji : j = i
    · subst hji; exact hy.wpOp hi hS ⟨Stay.refl _ _ _ _ _, H⟩
    · have h1 := H.2 j (ready_mono hj hji)
      obtain ⟨hjun, oj, hoj, hall⟩ := mem_ready.1 hj
      have hiun := (mem_ready.1 hr).1
      have hnot : ∀ e ∈ oj.after, Region.binds .any e = true → e.on ≠ i := fun e he hb heq => by
        have h1 := hall e he hb
        rw [heq] at h1
        exact unlisted hiun h1
      have hjd : j ∉ ds := fun hm => reach_not_ready hc (hd j hm hjun) hiun hj
      have h2 := wpOp_putIf hoj (hfree j oj hoj hji hjun hnot) (fun cs b => hsel i oi cs b hi) (fun cs b => hsel j oj cs b hoj) hQ hy h1
      have hfree' : ∀ k ok, ops[k]? = some ok → k ≠ i → (listed.setIfInBounds j true).getD k true = false →
          (∀ e ∈ ok.after, Region.binds .any e = true → e.on ≠ i) → oi.apart ops ok = true := fun k ok hk hki hun hno => by
        refine hfree k ok hk hki ?_ hno
        by_cases hjk : j = k
        · subst hjk; exact hjun
        · rw [getD_set_ne true hjk] at hun; exact hun
      have hd' : ∀ d ∈ ds, (listed.setIfInBounds j true).getD d true = false → reachB ops i n d = true := fun d hm hun => by
        refine hd d hm ?_
        by_cases hjk : j = d
        · subst hjk; exact hjun
        · rw [getD_set_ne true hjk] at hun; exact hun
      refine wpOp_mono (fun a' w' h3 => ⟨h3.2.1, ih (listed.setIfInBounds j true) a' w' hfree' (hc.set hj) hd' (ready_mono hr (Ne.symm hji)) h3.1 (hS' j hjd _ _ h3.2.1 hS) ?_⟩) h2
      rw [Array.setIfInBounds_comm _ _ hji]
      exact h3.2.2
theorem waitB_spec {listed : Array Bool} {ds : List Nat} {k : Nat} (h : waitB ops listed ds k = true) (d : Nat) (hd : d ∈ ds) (hun : listed.getD d true = false) : reachB ops k ops.size d = true := by
  have := List.all_eq_true.1 h d hd
  rw [hun] at this
  simpa using this
end

section
variable {P : Program} {ops : Array Oper} {Q : Exit → Act → World → Prop} {own : Nat → Prop} {N : Nat → Prop} {d1 d2 : List Nat} {Γ : Env} {n : Nat}

theorem stay_of_keeps {A : Bool} {k : Nat} (hA : A = true → ∀ b, N b → ¬ own b) (hk : (if A then d1.contains k else d2.contains k) = true) {w w' : World} (h : Keeps own w w') : Stay N d1 d2 k w w' := by
  cases A with
  | true =>
    simp only [if_true, List.contains_iff_mem] at hk
    exact ⟨fun _ b hb => h.block b (hA rfl b hb), fun _ h2 => absurd hk h2⟩
  | false =>
    simp only [Bool.false_eq_true, if_false, List.contains_iff_mem] at hk
    exact ⟨fun h2 => absurd hk h2, fun h2 => absurd hk h2⟩

def OldRows (h0 : Hp) (N : Nat → Prop) (ρ : List Loc) (w : World) : Prop := ∀ (id : Nat) B, h0[id]? = some B → ∃ l, ρ[id]? = some l ∧ BRel ρ w l B ∧ (B.solid = true → N l.blk)
theorem BRel.old {ρ : List Loc} {w w' : World} {l : Loc} {B : Blk} (hb : BRel ρ w l B) (h : B.solid = true → w'.heap[l.blk]? = w.heap[l.blk]?) : BRel ρ w' l B := by
  by_cases hs : B.solid = true
  · exact hb.congr (h hs)
  · cases B with
    | cells c wr =>
      simp only [Blk.solid, Bool.or_eq_true, not_or, Bool.not_eq_true, Bool.not_eq_eq_eq_not, Bool.not_true, Bool.not_false] at hs
      obtain ⟨h1, h2⟩ := hs
      have hnil : c = [] := by simpa using h2
      subst hnil; subst h1
      exact ⟨hb.1, fun j a hj => by simp at hj, fun hw => by cases hw⟩
    | map es => simp [Blk.solid] at hs
    | iter s pos => simp [Blk.solid] at hs
    | dead => trivial
theorem OldRows.next {h0 : Hp} {ρ : List Loc} {w w' : World} (O : OldRows h0 N ρ w) (σ : List Loc) (hw : Old N w w') : OldRows h0 N (ρ ++ σ) w' := fun id B hB => by
  obtain ⟨l, h1, h2, h3⟩ := O id B hB
  exact ⟨l, get_more σ h1, (h2.old fun hs => hw _ (h3 hs)).more σ, h3⟩
theorem OldRows.same {h0 : Hp} {ρ : List Loc} {w w' : World} (O : OldRows h0 N ρ w) (hw : Old N w w') : SameRows h0 ρ w w' := fun id B l hB hl hs => by
  obtain ⟨l', h1, h2, h3⟩ := O id B hB
  obtain rfl : l = l' := Option.some.inj (hl.symm.trans h1)
  exact hw _ (h3 hs)
theorem yif_weaken {S S' : World → Prop} {o : Oper} {v : Value} {a : Act} (h : YieldsIf P ops S o v a) (hs : ∀ w, S' w → S w) : YieldsIf P ops S' o v a :=
  h.imp (fun ⟨h1, h2⟩ => ⟨h1, fun w hw => h2 w (hs w hw)⟩) id

theorem laysB_spec {o : Oper} {m : Nat} (h : laysB P o m = true) : o.guard = none ∧ ∃ t c, o.op = .alloc t ∧ zeroC P t = some c ∧ AV.unders m c = true := by
  unfold laysB at h
  simp only [Bool.and_eq_true, Option.isNone_iff_eq_none] at h
  obtain ⟨h1, h2⟩ := h
  refine ⟨h1, ?_⟩
  split at h2
  · rename_i t e
    split at h2
    · rename_i c hc
      exact ⟨t, c, e, hc, h2⟩
    · cases h2
  · cases h2
theorem lays_eff {o : Oper} {t : TypeId} {c : List AV} {s : St} (hg : o.guard = none) (ho : o.op = .alloc t) (hz : zeroC P t = some c) : effOp P Γ ops s o = some ⟨putA s.t o.dst (.p s.h.length 0), s.h ++ [.cells c true]⟩ := by
  unfold effOp wantedA
  rw [hg, ho]
  simp only [aeff, hz, Option.map_some]
theorem swap_back {s : St} {d1' d2' : Nat} {c1 c2 : List AV} {ρ σ τ : List Loc} {w w' : World} {ts : List Value} (hne : d1' ≠ d2') (hu : AV.unders s.h.length s.t = true) (hh : s.h.all (Blk.under s.h.length) = true) (hc1 : AV.unders s.h.length c1 = true) (hc2 : AV.unders s.h.length c2 = true) (hl : ρ.length = s.h.length)
    (H1 : HRel own (ρ ++ σ) (s.h ++ [.cells c2 true]) w) (H : HRel own (ρ ++ σ ++ τ) (s.h ++ [.cells c2 true] ++ [.cells c1 true]) w') (ht : VRels (ρ ++ σ ++ τ) ((s.t.set d2' (.p s.h.length 0)).set d1' (.p (s.h ++ [Blk.cells c2 true]).length 0)) ts) :
    ∃ σ' : List Loc, HRel own (ρ ++ σ') (s.h ++ [.cells c1 true] ++ [.cells c2 true]) w' ∧ VRels (ρ ++ σ') ((s.t.set d1' (.p s.h.length 0)).set d2' (.p (s.h ++ [Blk.cells c1 true]).length 0)) ts := by
  have e1 := H1.len
  have e2 := H.len
  simp only [List.length_append, List.length_cons, List.length_nil] at e1 e2
  obtain ⟨l2, rfl⟩ : ∃ l, σ = [l] := List.length_eq_one_iff.1 (by omega)
  obtain ⟨l1, rfl⟩ : ∃ l, τ = [l] := List.length_eq_one_iff.1 (by simp only [List.length_cons, List.length_nil] at e2; omega)
  rw [List.append_assoc, List.append_assoc] at H
  rw [List.append_assoc] at ht
  refine ⟨[l1, l2], ?_, ?_⟩
  · rw [List.append_assoc]
    exact HRel.swap H hh hc1 hc2
  · have h3 := ht.reAs (f := swapN s.h.length) (ρ' := ρ ++ [l1, l2]) (fun a b c d e => swapN_get hl _ _ d e)
    have p1 : reA (swapN s.h.length) (.p s.h.length 0) = .p (s.h.length + 1) 0 := by simp [reA, swapN]
    have p2 : reA (swapN s.h.length) (.p (s.h.length + 1) 0) = .p s.h.length 0 := by simp [reA, swapN]
    rw [reAs_set, reAs_set, reAs_under (fun _ => swapN_lt) hu, p1, List.length_append, List.length_cons, List.length_nil, p2, List.set_comm _ _ (Ne.symm hne)] at h3
    rw [List.length_append, List.length_cons, List.length_nil]
    exact h3
def PlanRun (P : Program) (ops : Array Oper) (Q : Exit → Act → World → Prop) (own : Nat → Prop) (N : Nat → Prop) (d1 d2 : List Nat) (Γ : Env) (A : Bool) (h0 : Hp) (p : Plan) : Prop :=
    ∀ (fuel : Nat) (listed listed' : Array Bool) (ρ : List Loc) (s s' : St) (a : Act) (w : World), planEven p = true → planOk ops A d1 d2 p listed = some listed' → runPlan P Γ ops h0 p s = some s' →
      ListedClosed ops listed → HRel own ρ s.h w → VRels ρ s.t a.tmps.toList → (A = true → OldRows h0 N ρ w) →
      Cont own ρ w a.defers s' (fun a' w' => ListedClosed ops listed' → wpAnyE P ops Q N d1 d2 fuel listed' a' w') → wpAnyE P ops Q N d1 d2 (fuel + planLen p) listed a w
theorem plan_run (hΓ : Sound P Γ) (hsel : Region.noSelect ops = true) (hQ : ∀ c a w d v, Q (.panic c) (Act.put a d v) w → Q (.panic c) a w) {A : Bool} (hA : A = true → ∀ b, N b → ¬ own b) {h0 : Hp} :
    ∀ (p : Plan), PlanRun P ops Q own N d1 d2 Γ A h0 p
  | .nil, fuel, listed, listed', ρ, s, s', a, w, hev, hok, hrun, hc, H, ht, O, hK => by
    simp only [planOk, Option.some.injEq] at hok
    simp only [runPlan, Option.some.injEq] at hrun
    subst hok; subst hrun
    exact hK.here H ht rfl hc
  | .pure k p, fuel, listed, listed', ρ, s, s', a, w, hev, hok, hrun, hc, H, ht, O, hK => by
    simp only [planOk, Option.ite_none_right_eq_some, Bool.and_eq_true, List.contains_iff_mem] at hok
    obtain ⟨⟨hf, hr⟩, hok⟩ := hok
    simp only [runPlan] at hrun
    split at hrun
    · rename_i o ho
      obtain ⟨s1, h1, hrun⟩ := Option.bind_eq_some_iff.1 hrun
      obtain ⟨hh, v, hy, hr2⟩ := pureOp_run ht h1
      refine wpAnyE_first (S := fun _ => True) (ds := []) ho (Region.noSelect_spec hsel) (fun c a w => hQ c a w _ _) (fun _ _ _ _ _ _ => trivial) ops.size (fuel + planLen p) listed a w (Region.free_spec ho hf) hc (fun d hd => by simp at hd) hr hy.yieldsIf trivial ?_
      exact plan_run hΓ hsel hQ hA p fuel _ _ ρ s1 s' _ w hev hok hrun (hc.set hr) (hh ▸ H) hr2 O (by rw [put_defers]; exact hK)
    · cases hrun
  | .any k p, fuel, listed, listed', ρ, s, s', a, w, hev, hok, hrun, hc, H, ht, O, hK => by
    simp only [planOk, Option.ite_none_right_eq_some, Bool.and_eq_true, List.contains_iff_mem] at hok
    obtain ⟨⟨⟨⟨hf, hr⟩, hw1⟩, hw2⟩, hok⟩ := hok
    simp only [runPlan] at hrun
    split at hrun
    · rename_i o ho
      obtain ⟨s1, h1, hrun⟩ := Option.bind_eq_some_iff.1 hrun
      obtain ⟨hh, v, hy, hr2⟩ := readOp_run H.rowsAt ht h1
      refine wpAnyE_first (S := fun w' => w' = w) (ds := d1 ++ d2) ho (Region.noSelect_spec hsel) (fun c a w => hQ c a w _ _) (fun j hj w1 w2 hs h => ?_) ops.size (fuel + planLen p) listed a w (Region.free_spec ho hf) hc
        (fun d hd hun => ?_) hr (yif_weaken hy fun w' hw' => by subst hw'; exact SameRows.refl _ _ _) rfl ?_
      · rw [List.mem_append, not_or] at hj
        rw [hs.2 hj.2 hj.1]; exact h
      · rcases List.mem_append.1 hd with hd | hd
        · exact waitB_spec hw1 d hd hun
        · exact waitB_spec hw2 d hd hun
      · exact plan_run hΓ hsel hQ hA p fuel _ _ ρ s1 s' _ w hev hok hrun (hc.set hr) (hh ▸ H) hr2 O (by rw [put_defers]; exact hK)
    · cases hrun
  | .old k p, fuel, listed, listed', ρ, s, s', a, w, hev, hok, hrun, hc, H, ht, O, hK => by
    simp only [planOk, Option.ite_none_right_eq_some, Bool.and_eq_true, List.contains_iff_mem] at hok
    obtain ⟨⟨⟨⟨hAt, hf⟩, hr⟩, hw2⟩, hok⟩ := hok
    have O' := O hAt
    simp only [runPlan] at hrun
    split at hrun
    · rename_i o ho
      obtain ⟨s1, h1, hrun⟩ := Option.bind_eq_some_iff.1 hrun
      obtain ⟨hh, v, hy, hr2⟩ := readOp_run (w := w) (fun id B hB => (O' id B hB).imp fun l hl => ⟨hl.1, hl.2.1⟩) ht h1
      refine wpAnyE_first (S := fun w' => Old N w w') (ds := d2) ho (Region.noSelect_spec hsel) (fun c a w => hQ c a w _ _) (fun j hj w1 w2 hs h => h.trans (hs.1 hj)) ops.size (fuel + planLen p) listed a w (Region.free_spec ho hf) hc
        (fun d hd hun => waitB_spec hw2 d hd hun) hr (yif_weaken hy fun w' hw' => O'.same hw') (Old.refl _ _) ?_
      exact plan_run hΓ hsel hQ hA p fuel _ _ ρ s1 s' _ w hev hok hrun (hc.set hr) (hh ▸ H) hr2 O (by rw [put_defers]; exact hK)
    · cases hrun
  | .eff k p, fuel, listed, listed', ρ, s, s', a, w, hev, hok, hrun, hc, H, ht, O, hK => by
    simp only [planOk, Option.ite_none_right_eq_some, Bool.and_eq_true, decide_eq_true_eq] at hok
    obtain ⟨⟨hr, hk⟩, hok⟩ := hok
    simp only [runPlan] at hrun
    split at hrun
    · rename_i o ho
      obtain ⟨s1, h1, hrun⟩ := Option.bind_eq_some_iff.1 hrun
      refine ⟨fun h => (by rw [hr] at h; cases h), fun i hi => ?_⟩
      have hik : i = k := by rw [hr] at hi; simpa using hi
      subst hik
      refine effOp_run hΓ ho H ht h1 fun σ a' w' k1 k2 k3 k4 => ⟨stay_of_keeps hA hk k3, ?_⟩
      exact plan_run hΓ hsel hQ hA p fuel _ _ (ρ ++ σ) s1 s' a' w' hev hok hrun (hc.set hi) k1 k2 (fun h => (O h).next σ fun b hb => k3.block b (hA h b hb)) (by rw [k4]; exact hK.next k3)
    · cases hrun
  | .two i1 p1 i2 p2 p, fuel, listed, listed', ρ, s, s', a, w, hev, hok, hrun, hc, H, ht, O, hK => by
    simp only [planOk, Option.ite_none_right_eq_some, Bool.and_eq_true, decide_eq_true_eq] at hok
    obtain ⟨⟨⟨hr, hne⟩, hk⟩, hok⟩ := hok
    simp only [planEven, Bool.and_eq_true, beq_iff_eq] at hev
    obtain ⟨⟨⟨hev1, hev2⟩, hlen⟩, hev⟩ := hev
    have hkA : (if A then d1.contains i1 else d2.contains i1) = true ∧ (if A then d1.contains i2 else d2.contains i2) = true := by
      cases A <;> simpa using hk
    split at hok
    · rename_i l1 l2 hok1 hok2
      simp only [Option.ite_none_right_eq_some] at hok
      obtain ⟨rfl, hok⟩ := hok
      simp only [runPlan] at hrun
      split at hrun
      · rename_i o1 o2 ho1 ho2
        split at hrun
        · rename_i s1 s2 hr1 hr2
          simp only [Option.ite_none_right_eq_some] at hrun
          obtain ⟨hsame, hrun⟩ := hrun
          have hsame := St.same_eq hsame
          subst hsame
          obtain ⟨s3, h3, hr1⟩ := Option.bind_eq_some_iff.1 hr1
          obtain ⟨s4, h4, hr2⟩ := Option.bind_eq_some_iff.1 hr2
          have goal : ∀ i o s5 q, ops[i]? = some o → i ∈ Region.ready .any ops listed → (if A then d1.contains i else d2.contains i) = true → effOp P Γ ops s o = some s5 → planEven q = true → planOk ops A d1 d2 q (listed.setIfInBounds i true) = some l1 → runPlan P Γ ops h0 q s5 = some s1 → PlanRun P ops Q own N d1 d2 Γ A h0 q →
              wpOp P ops Q i (fun a' w' => Stay N d1 d2 i w w' ∧ wpAnyE P ops Q N d1 d2 (fuel + planLen p + planLen q) (listed.setIfInBounds i true) a' w') a w := by
            intro i o s5 q ho hi hk h5 hevq hokq hrq ihq
            refine effOp_run hΓ ho H ht h5 fun σ a' w' k1 k2 k3 k4 => ⟨stay_of_keeps hA hk k3, ?_⟩
            have O5 : A = true → OldRows h0 N (ρ ++ σ) w' := fun h => (O h).next σ fun b hb => k3.block b (hA h b hb)
            refine ihq (fuel + planLen p) _ _ (ρ ++ σ) s5 s1 a' w' hevq hokq hrq (hc.set hi) k1 k2 O5 fun τ a'' w'' m1 m2 m3 m4 hc' => ?_
            exact plan_run hΓ hsel hQ hA p fuel _ _ (ρ ++ σ ++ τ) s1 s' a'' w'' hev hok hrun hc' m1 m2 (fun h => (O5 h).next τ fun b hb => m3.block b (hA h b hb)) (by rw [m4, k4]; exact (hK.next k3).next m3)
          have hl : fuel + planLen (.two i1 p1 i2 p2 p) = (fuel + planLen p + planLen p1) + 1 := by simp only [planLen]; omega
          rw [hl]
          refine ⟨fun h => (by rw [hr] at h; cases h), fun i hi => ?_⟩
          have hi' := hi
          rw [hr] at hi
          simp only [List.mem_cons, List.not_mem_nil, or_false] at hi
          rcases hi with rfl | rfl
          · exact goal _ _ _ p1 ho1 hi' hkA.1 h3 hev1 hok1 hr1 (plan_run hΓ hsel hQ hA p1)
          · have := goal _ _ _ p2 ho2 hi' hkA.2 h4 hev2 hok2 hr2 (plan_run hΓ hsel hQ hA p2)
            rw [← hlen] at this
            exact this
        · cases hrun
      · cases hrun
    · cases hok
  | .pair i1 i2 p, fuel, listed, listed', ρ, s, s', a, w, hev, hok, hrun, hc, H, ht, O, hK => by
    simp only [planOk, Option.ite_none_right_eq_some, Bool.and_eq_true, decide_eq_true_eq] at hok
    obtain ⟨⟨⟨⟨⟨hr, hne⟩, hr1⟩, hr2⟩, hk⟩, hok⟩ := hok
    have hkA : (if A then d1.contains i1 else d2.contains i1) = true ∧ (if A then d1.contains i2 else d2.contains i2) = true := by
      cases A <;> simpa using hk
    have hev : planEven p = true := hev
    simp only [runPlan] at hrun
    split at hrun
    · rename_i o1 o2 ho1 ho2
      simp only [Option.ite_none_right_eq_some] at hrun
      obtain ⟨hp, hrun⟩ := hrun
      unfold pairOk at hp
      simp only [Bool.and_eq_true] at hp
      obtain ⟨⟨⟨⟨hp1, hp2⟩, hd⟩, hut⟩, huh⟩ := hp
      obtain ⟨g1, t1, c1, e1, z1, u1⟩ := laysB_spec hp1
      obtain ⟨g2, t2, c2, e2, z2, u2⟩ := laysB_spec hp2
      obtain ⟨x1, x2, hx1, hx2, hx⟩ : ∃ x1 x2, o1.dst = some x1 ∧ o2.dst = some x2 ∧ x1 ≠ x2 := by
        revert hd
        cases o1.dst <;> cases o2.dst <;> simp
      obtain ⟨s1, h1, hrun⟩ := Option.bind_eq_some_iff.1 hrun
      obtain ⟨s2, h2, hrun⟩ := Option.bind_eq_some_iff.1 hrun
      have f1 := lays_eff (P := P) (Γ := Γ) (ops := ops) (s := s) g1 e1 z1
      have q1 : (⟨s.t.set x1 (.p s.h.length 0), s.h ++ [.cells c1 true]⟩ : St) = s1 := by rw [h1, hx1] at f1; exact (Option.some.inj f1).symm
      subst q1
      have f2 := lays_eff (P := P) (Γ := Γ) (ops := ops) (s := ⟨s.t.set x1 (.p s.h.length 0), s.h ++ [.cells c1 true]⟩) g2 e2 z2
      have q2 : (⟨(s.t.set x1 (.p s.h.length 0)).set x2 (.p (s.h ++ [Blk.cells c1 true]).length 0), s.h ++ [.cells c1 true] ++ [.cells c2 true]⟩ : St) = s2 := by rw [h2, hx2] at f2; exact (Option.some.inj f2).symm
      subst q2
      have k2 := lays_eff (P := P) (Γ := Γ) (ops := ops) (s := s) g2 e2 z2
      have k1 := lays_eff (P := P) (Γ := Γ) (ops := ops) (s := ⟨s.t.set x2 (.p s.h.length 0), s.h ++ [.cells c2 true]⟩) g1 e1 z1
      rw [hx2] at k2
      rw [hx1] at k1
      have hlen : ρ.length = s.h.length := H.len
      have hr1' : i2 ∈ Region.ready .any ops (listed.setIfInBounds i1 true) := by rw [hr1]; exact List.mem_cons_self
      have hr2' : i1 ∈ Region.ready .any ops (listed.setIfInBounds i2 true) := by rw [hr2]; exact List.mem_cons_self
      show wpAnyE P ops Q N d1 d2 (fuel + planLen p + 1 + 1) listed a w
      refine ⟨fun h => (by rw [hr] at h; cases h), fun i hi => ?_⟩
      have hi' := hi
      rw [hr] at hi
      simp only [List.mem_cons, List.not_mem_nil, or_false] at hi
      rcases hi with rfl | rfl
      · refine effOp_run hΓ ho1 H ht h1 fun σ a' w' m1 m2 m3 m4 => ⟨stay_of_keeps hA hkA.1 m3, ?_⟩
        refine ⟨fun h => (by rw [hr1] at h; cases h), fun j hj => ?_⟩
        have hj' := hj
        rw [hr1] at hj
        have hj := List.mem_singleton.1 hj
        subst hj
        refine effOp_run hΓ ho2 m1 m2 h2 fun τ a'' w'' n1 n2 n3 n4 => ⟨stay_of_keeps hA hkA.2 n3, ?_⟩
        exact plan_run hΓ hsel hQ hA p fuel _ _ (ρ ++ σ ++ τ) _ s' a'' w'' hev hok hrun ((hc.set hi').set hj') n1 n2
          (fun h => ((O h).next σ fun b hb => m3.block b (hA h b hb)).next τ fun b hb => n3.block b (hA h b hb)) (by rw [n4, m4]; exact (hK.next m3).next n3)
      · refine effOp_run hΓ ho2 H ht k2 fun σ a' w' m1 m2 m3 m4 => ⟨stay_of_keeps hA hkA.2 m3, ?_⟩
        refine ⟨fun h => (by rw [hr2] at h; cases h), fun j hj => ?_⟩
        have hj' := hj
        rw [hr2] at hj
        have hj := List.mem_singleton.1 hj
        subst hj
        refine effOp_run hΓ ho1 m1 m2 k1 fun τ a'' w'' n1 n2 n3 n4 => ⟨stay_of_keeps hA hkA.1 n3, ?_⟩
        obtain ⟨σ', b1, b2⟩ := swap_back hx hut huh u1 u2 hlen m1 n1 n2
        have hcc := (hc.set hi').set hj'
        rw [Array.setIfInBounds_comm _ _ (Ne.symm hne)] at hcc ⊢
        refine plan_run hΓ hsel hQ hA p fuel _ _ (ρ ++ σ') _ s' a'' w'' hev hok hrun hcc b1 b2 (fun h => (O h).next σ' fun b hb => ?_) (by rw [n4, m4]; exact hK.next (σ := σ') (m3.trans n3))
        rw [n3.block b (hA h b hb), m3.block b (hA h b hb)]
    · cases hrun
end
end Go.Proofs.Ytnfbgfmdjaodgaa.Eng
