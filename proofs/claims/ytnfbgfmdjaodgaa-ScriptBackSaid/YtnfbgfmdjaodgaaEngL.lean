/- That the steps do what they say; and the plans: whatever order is drawn. -/
import Derived.Test.YtnfbgfmdjaodgaaEngK
set_option linter.unusedVariables false
set_option linter.unusedSimpArgs false
namespace Go.Proofs.Ytnfbgfmdjaodgaa.Eng
open Go.RowKit

mutual
theorem AV.same_eq : ∀ (a b : AV), AV.same a b = true → a = b
  | .bad, b, h => by cases b <;> simp_all [AV.same]
  | .bo a1, b, h => by cases b <;> simp_all [AV.same]
  | .i a1 a2, b, h => by cases b <;> simp_all [AV.same]
  | .s a1, b, h => by cases b <;> simp_all [AV.same]
  | .pn, b, h => by cases b <;> simp_all [AV.same]
  | .p a1 a2, b, h => by cases b <;> simp_all [AV.same]
  | .sn, b, h => by cases b <;> simp_all [AV.same]
  | .sl a1 a2 a3 a4 a5, b, h => by cases b <;> simp_all [AV.same]
  | .mn, b, h => by cases b <;> simp_all [AV.same]
  | .m a1, b, h => by cases b <;> simp_all [AV.same]
  | .nf, b, h => by cases b <;> simp_all [AV.same]
  | .ni, b, h => by cases b <;> simp_all [AV.same]
  | .ic t v, b, h => by
    cases b with
    | ic u w => simp only [AV.same, Bool.and_eq_true, beq_iff_eq] at h; rw [h.1, AV.same_eq v w h.2]
    | _ => simp [AV.same] at h
  | .fn f c, b, h => by
    cases b with
    | fn g d => simp only [AV.same, Bool.and_eq_true, beq_iff_eq] at h; rw [h.1, AV.sames_eq c d h.2]
    | _ => simp [AV.same] at h
  | .ag x, b, h => by
    cases b with
    | ag y => simp only [AV.same] at h; rw [AV.sames_eq x y h]
    | _ => simp [AV.same] at h
  | .tu x, b, h => by
    cases b with
    | tu y => simp only [AV.same] at h; rw [AV.sames_eq x y h]
    | _ => simp [AV.same] at h
theorem AV.sames_eq : ∀ (a b : List AV), AV.sames a b = true → a = b
  | [], b, h => by cases b <;> simp_all [AV.sames]
  | x :: xs, b, h => by
    cases b with
    | nil => simp [AV.sames] at h
    | cons y ys => simp only [AV.sames, Bool.and_eq_true] at h; rw [AV.same_eq x y h.1, AV.sames_eq xs ys h.2]
end
theorem pairs_eq : ∀ {c d : List (AV × AV)}, c.map (·.1) = d.map (·.1) → c.map (·.2) = d.map (·.2) → c = d
  | [], [], _, _ => rfl
  | [], _ :: _, h, _ => by simp at h
  | _ :: _, [], h, _ => by simp at h
  | (a, b) :: c, (a', b') :: d, h, k => by
    simp only [List.map_cons, List.cons.injEq] at h k
    rw [h.1, k.1, pairs_eq h.2 k.2]
theorem Blk.same_eq {a b : Blk} (h : Blk.same a b = true) : a = b := by
  cases a <;> cases b <;> simp only [Blk.same, Bool.and_eq_true, beq_iff_eq, decide_eq_true_eq, Bool.false_eq_true] at h
  · rw [AV.sames_eq _ _ h.1, h.2]
  · rw [pairs_eq (AV.sames_eq _ _ h.1) (AV.sames_eq _ _ h.2)]
  · rw [h.1, h.2]
  · rfl
theorem Hp.same_eq : ∀ {a b : Hp}, Hp.same a b = true → a = b
  | [], [], _ => rfl
  | [], _ :: _, h => by simp [Hp.same] at h
  | _ :: _, [], h => by simp [Hp.same] at h
  | x :: xs, y :: ys, h => by simp only [Hp.same, Bool.and_eq_true] at h; rw [Blk.same_eq h.1, Hp.same_eq h.2]
theorem St.same_eq {a b : St} (h : St.same a b = true) : a = b := by
  simp only [St.same, Bool.and_eq_true] at h
  cases a; cases b
  rw [St.mk.injEq]
  exact ⟨AV.sames_eq _ _ h.1, Hp.same_eq h.2⟩

section
variable {P : Program} {own : Nat → Prop} {ρ : List Loc} {h : Hp} {w : World}

def SameRows (h : Hp) (ρ : List Loc) (w w' : World) : Prop := ∀ (id : Nat) B l, h[id]? = some B → ρ[id]? = some l → B.solid = true → w'.heap[l.blk]? = w.heap[l.blk]?
theorem SameRows.refl (h : Hp) (ρ : List Loc) (w : World) : SameRows h ρ w w := fun _ _ _ _ _ _ => rfl
theorem solid_of {c : List AV} {wr : Bool} {o : Nat} (ho : o < c.length) : Blk.solid (.cells c wr) = true := by
  cases c with
  | nil => simp at ho
  | cons x xs => simp [Blk.solid]
def RowsAt (ρ : List Loc) (h : Hp) (w : World) : Prop := ∀ (id : Nat) B, h[id]? = some B → ∃ l, ρ[id]? = some l ∧ BRel ρ w l B
theorem aload_same (H : RowsAt ρ h w) {t : TypeId} {x r : AV} {u : Value} (e : aload P h t x = some r) (hx : VRel ρ x u) :
    ∃ z, VRel ρ r z ∧ ∀ w', SameRows h ρ w w' → (Instr.loadAt t u).run P w' = .ok z w' := by
  unfold aload at e
  split at e
  · rename_i id off
    obtain ⟨l, hl, rfl⟩ := hx
    obtain ⟨⟨c, wr⟩, hc, e⟩ := Option.bind_eq_some_iff.1 e
    obtain ⟨l', hl', hb⟩ := H _ _ (hcells_some hc)
    obtain rfl : l = l' := Option.some.inj (hl.symm.trans hl')
    have same : ∀ w', SameRows h ρ w w' → ∀ o, o < c.length → w'.cell? (l.at o) = w.cell? (l.at o) := fun w' hs o ho => cell_of_heap (hs id _ l (hcells_some hc) hl (solid_of ho))
    cases hu : P.underlying t with
    | none => simp [hu] at e
    | some d =>
      simp only [hu, Option.isNone_some, Bool.false_eq_true, if_false] at e
      split at e
      · rename_i ha
        obtain ⟨n, hn, e⟩ := Option.bind_eq_some_iff.1 e
        split at e
        · rename_i hle
          cases e
          obtain ⟨vs, h1, h2, h3⟩ := cells_at hb n off hle
          refine ⟨.agg vs.toArray, ⟨vs, rfl, h2⟩, fun w' hs => ?_⟩
          have := loadCells_at (P := P) (w := w') (l := l) (o := off) (vs := vs) fun j v hv => by
            have hj : j < vs.length := (List.getElem?_eq_some_iff.1 hv).1
            have hle' : off + n ≤ c.length := hle
            rw [same w' hs _ (by omega)]; exact h3 j v hv
          rw [h1] at this
          simp only [Instr.loadAt, Instr.sureAddr, loadVar, Sem.run_bind, Sem.run_pure, Result.andThen_ok, isAgg_run hu, ha, if_true, asz_run hn, this]
        · cases e
      · rename_i ha
        obtain ⟨v, hv, hr⟩ := hb.2.1 off r e
        refine ⟨v, hr, fun w' hs => ?_⟩
        have hv' : w'.cell? (l.at off) = some v := by rw [same w' hs off (List.getElem?_eq_some_iff.1 e).1]; exact hv
        simp only [Instr.loadAt, Instr.sureAddr, loadVar, Sem.run_bind, Sem.run_pure, Result.andThen_ok, isAgg_run hu, ha, Bool.false_eq_true, if_false]
        simp [hv']
  · cases e
theorem atext_same (H : RowsAt ρ h w) {src dst : TypeId} {x r : AV} {xv : Value} (hx : VRel ρ x xv) (hm : atext P h src dst x = some r) :
    ∃ z, VRel ρ r z ∧ ∀ w', SameRows h ρ w w' → (convert src dst xv).run P w' = .ok z w' := by
  unfold atext at hm
  split at hm
  · rename_i e hs hd
    split at hm
    · rename_i he
      split at hm
      · cases hm; cases hx
        exact ⟨_, rfl, fun w' _ => by simp [convert, run_underlying hs, run_underlying hd, run_underlying he, Conv.bytesToString]⟩
      · rename_i id off len cap
        obtain ⟨l, a, hl, _, hle, rfl, hat⟩ := hx
        obtain ⟨⟨c, wr⟩, hc, hm⟩ := Option.bind_eq_some_iff.1 hm
        split at hm
        · rename_i hfit
          obtain ⟨ns, hns, rfl⟩ := Option.map_eq_some_iff.1 hm
          obtain ⟨l', hl', hb⟩ := H _ _ (hcells_some hc)
          obtain rfl : l = l' := Option.some.inj (hl.symm.trans hl')
          obtain ⟨vs, k1, k2, k3⟩ := cells_at hb len off hfit
          have hv := numsOf_run hns k2
          refine ⟨_, rfl, fun w' hsame => ?_⟩
          have k3' : ∀ j v, vs[j]? = some v → w'.cell? (l.at (off + j)) = some v := fun j v hjv => by
            have hj : j < vs.length := (List.getElem?_eq_some_iff.1 hjv).1
            have hfit' : off + len ≤ c.length := hfit
            rw [cell_of_heap (hsame id _ l (hcells_some hc) hl (solid_of (o := off + j) (by omega)))]
            exact k3 j v hjv
          have hload : (loadCells a len).run P w' = .ok (ns.map (Value.int .u8)).toArray w' := by
            by_cases h0 : len = 0
            · subst h0
              have hnil : vs = [] := List.eq_nil_of_length_eq_zero k1
              rw [← hv, hnil]
              simp [loadCells, loadCellsFrom]
            · rw [hat (by omega), ← k1, ← hv]
              exact loadCells_at k3'
          have := run_bytesToString (P := P) w' a len (capOf l off 1 cap) ns hload
          rw [push_all] at this
          simp only [convert, Sem.run_bind, run_underlying hs, run_underlying hd, run_underlying he, Result.andThen_ok]
          rw [this]
          simp
        · cases hm
      · cases hm
    · cases hm
  · cases hm
theorem aread_same (H : RowsAt ρ h w) {E : Operand → AV} {e : Operand → Value} (hE : ∀ x, VRel ρ (E x) (e x)) {o : Oper} {r : AV} (hr : aread P E h o.op = some r) :
    ∃ z, VRel ρ r z ∧ ∀ w', SameRows h ρ w w' → (execOp e o).run P w' = .ok (.value z) w' := by
  obtain ⟨dst, op, ty, pos, after, guard⟩ := o
  simp only at hr
  unfold aread at hr
  split at hr
  · rename_i t a
    obtain ⟨z, hz, hw⟩ := aload_same H hr (hE a)
    exact ⟨z, hz, fun w' hs => by simp only [execOp, Sem.run_bind, hw w' hs, Result.andThen_ok, Sem.run_pure]⟩
  · rename_i src dst x
    obtain ⟨z, hz, hw⟩ := atext_same H (hE x) hr
    exact ⟨z, hz, fun w' hs => by simp only [execOp, Sem.run_bind, hw w' hs, Result.andThen_ok, Sem.run_pure]⟩
  · cases hr
theorem HRel.rowsAt (H : HRel own ρ h w) : RowsAt ρ h w := fun id B hB => H.loc hB
theorem get_take {α : Type} {xs : List α} {n i : Nat} {C : α} (hi : (xs.take n)[i]? = some C) : i < n ∧ xs[i]? = some C := by
  have h1 : i < n := by
    have := (List.getElem?_eq_some_iff.1 hi).1
    simp at this; omega
  rw [List.getElem?_take_of_lt h1] at hi
  exact ⟨h1, hi⟩
theorem RowsAt.take (H : RowsAt ρ h w) (n : Nat) : RowsAt ρ (h.take n) w := fun id B hB => H id B (get_take hB).2

theorem put_rel {t : List AV} {a : Act} (ht : VRels ρ t a.tmps.toList) {r : AV} {z : Value} (hr : VRel ρ r z) (dst : Option Tmp) : VRels ρ (putA t dst r) (a.put dst z).tmps.toList := by
  cases dst with
  | none => exact ht
  | some d =>
    simp only [putA, Act.put, Array.toList_setIfInBounds]
    exact ht.set d hr
theorem und_rel : VRel ρ und undef := ⟨[], rfl, rfl⟩
theorem wantedA_run {ops : Array Oper} {t : List AV} {a : Act} {o : Oper} {b : Bool} (ht : VRels ρ t a.tmps.toList) (hw : wantedA ops t o = some b) : Region.wanted o (yielded ops a.tmps) = b := by
  unfold wantedA at hw
  unfold Region.wanted
  cases hg : o.guard with
  | none => rw [hg] at hw; simp at hw; simp [hw]
  | some q =>
    obtain ⟨j, c⟩ := q
    rw [hg] at hw
    simp only at hw ⊢
    unfold yielded
    cases hd : (ops[j]?).bind (·.dst) with
    | none => rw [hd] at hw; simp at hw; subst hw; simp
    | some d =>
      rw [hd] at hw
      simp only [Option.bind_some] at hw ⊢
      by_cases hlt : d < t.length
      · obtain ⟨v, hv, hr⟩ := ht.get d (List.getElem?_eq_getElem hlt)
        rw [Array.getElem?_toList] at hv
        rw [List.getElem?_eq_getElem hlt] at hw
        rw [hv]
        generalize t[d] = y at hw hr
        cases y <;> simp only [Option.some.injEq, reduceCtorEq] at hw <;> simp only [VRel] at hr
        case bo x => subst hr; subst hw; cases x <;> cases c <;> rfl
        all_goals subst hw
        all_goals first
          | (subst hr; rfl)
          | (obtain ⟨_, _, rfl⟩ := hr; rfl)
          | (obtain ⟨_, rfl, _⟩ := hr; rfl)
          | (obtain ⟨_, _, _, _, _, rfl, _⟩ := hr; rfl)
      · have hlen := ht.length
        rw [List.getElem?_eq_none (Nat.le_of_not_lt hlt)] at hw
        simp only [Option.some.injEq] at hw
        subst hw
        rw [Array.getElem?_eq_none (by rw [← Array.length_toList, hlen]; exact Nat.le_of_not_lt hlt)]
        rfl
theorem pureOp_run {ops : Array Oper} {s s' : St} {o : Oper} {a : Act} (ht : VRels ρ s.t a.tmps.toList) (he : pureOp P ops s o = some s') :
    s'.h = s.h ∧ ∃ v, Yields P ops o v a ∧ VRels ρ s'.t (a.put o.dst v).tmps.toList := by
  unfold pureOp at he
  split at he
  · rename_i hw
    split at he
    · rename_i v hv
      cases he
      obtain ⟨z, hz, hrun⟩ := apure_run (fun x => ev_rel ht x) hv
      exact ⟨rfl, z, .inl ⟨wantedA_run ht hw, hrun⟩, put_rel ht hz _⟩
    · cases he
  · rename_i hw
    cases he
    exact ⟨rfl, undef, .inr ⟨wantedA_run ht hw, rfl⟩, put_rel ht und_rel _⟩
  · cases he
theorem readOp_run {ops : Array Oper} {hh : Hp} {s s' : St} {o : Oper} {a : Act} (H : RowsAt ρ hh w) (ht : VRels ρ s.t a.tmps.toList) (he : readOp P ops hh s o = some s') :
    s'.h = s.h ∧ ∃ v, YieldsIf P ops (SameRows hh ρ w) o v a ∧ VRels ρ s'.t (a.put o.dst v).tmps.toList := by
  unfold readOp at he
  split at he
  · rename_i hw
    split at he
    · rename_i v hv
      cases he
      obtain ⟨z, hz, hrun⟩ := aread_same H (fun x => ev_rel ht x) hv
      exact ⟨rfl, z, .inl ⟨wantedA_run ht hw, hrun⟩, put_rel ht hz _⟩
    · cases he
  · rename_i hw
    cases he
    exact ⟨rfl, undef, .inr ⟨wantedA_run ht hw, rfl⟩, put_rel ht und_rel _⟩
  · cases he
def Cont (own : Nat → Prop) (ρ : List Loc) (w : World) (D : List Deferred) (s' : St) (K : Act → World → Prop) : Prop :=
  ∀ σ a' w', HRel own (ρ ++ σ) s'.h w' → VRels (ρ ++ σ) s'.t a'.tmps.toList → Keeps own w w' → a'.defers = D → K a' w'
theorem put_defers (a : Act) (d : Option Tmp) (v : Value) : (a.put d v).defers = a.defers := by cases d <;> rfl
theorem effOp_run {Γ : Env} (hΓ : Sound P Γ) {ops : Array Oper} {i : Nat} {s s' : St} {o : Oper} {a : Act} {Q : Exit → Act → World → Prop} {K : Act → World → Prop} (hi : ops[i]? = some o) (H : HRel own ρ s.h w) (ht : VRels ρ s.t a.tmps.toList)
    (he : effOp P Γ ops s o = some s') (hK : Cont own ρ w a.defers s' K) : wpOp P ops Q i K a w := by
  unfold effOp at he
  unfold wpOp
  simp only [hi]
  split at he
  · rename_i hw
    split at he
    · rename_i v h' hv
      cases he
      rw [wantedA_run ht hw, if_pos rfl]
      refine .inl (aeff_run hΓ H ht hv K Q fun σ z w' h1 h2 h3 => hK σ _ w' h1 ?_ h3 (put_defers _ _ _))
      exact put_rel (ht.more σ) h2 _
    · cases he
  · rename_i hw
    cases he
    rw [wantedA_run ht hw]
    simp only [Bool.false_eq_true, if_false]
    exact hK [] _ w (by simpa using H) (by simpa using put_rel ht und_rel o.dst) (Keeps.refl _ _) (put_defers _ _ _)
  · cases he
theorem Cont.here {s' : St} {D : List Deferred} {K : Act → World → Prop} (hK : Cont own ρ w D s' K) {a' : Act} (H : HRel own ρ s'.h w) (ht : VRels ρ s'.t a'.tmps.toList) (hd : a'.defers = D) : K a' w :=
  hK [] a' w (by simpa using H) (by simpa using ht) (Keeps.refl _ _) hd
theorem Cont.next {s' : St} {D : List Deferred} {K : Act → World → Prop} (hK : Cont own ρ w D s' K) {σ : List Loc} {w' : World} (k : Keeps own w w') : Cont own (ρ ++ σ) w' D s' K :=
  fun τ a' w'' h1 h2 h3 h4 => hK (σ ++ τ) a' w'' (by rw [← List.append_assoc]; exact h1) (by rw [← List.append_assoc]; exact h2) (k.trans h3) h4
theorem stepOp_run {Γ : Env} (hΓ : Sound P Γ) {ops : Array Oper} {i : Nat} {s s' : St} {o : Oper} {a : Act} {Q : Exit → Act → World → Prop} {K : Act → World → Prop} (hi : ops[i]? = some o) (H : HRel own ρ s.h w) (ht : VRels ρ s.t a.tmps.toList)
    (he : stepOp P Γ ops s o = some s') (hK : Cont own ρ w a.defers s' K) : wpOp P ops Q i K a w := by
  unfold stepOp at he
  split at he
  · obtain ⟨hh, v, hy, hr⟩ := pureOp_run ht he
    exact hy.wpOp hi (hK.here (hh ▸ H) hr (put_defers _ _ _))
  · obtain ⟨hh, v, hy, hr⟩ := readOp_run H.rowsAt ht he
    exact hy.wpOp hi (SameRows.refl _ _ _) (hK.here (hh ▸ H) hr (put_defers _ _ _))
  · exact effOp_run hΓ hi H ht he hK
theorem runOps_run {Γ : Env} (hΓ : Sound P Γ) {ops : Array Oper} {Q : Exit → Act → World → Prop} : ∀ (k : Nat) (l : List Oper) (ρ : List Loc) (s s' : St) (a : Act) (w : World), (∀ j o, l[j]? = some o → ops[k + j]? = some o) → HRel own ρ s.h w → VRels ρ s.t a.tmps.toList →
    runOps P Γ ops l s = some s' → Cont own ρ w a.defers s' (Q .normal) → wpOps P ops Q (List.range' k l.length) a w
  | k, [], ρ, s, s', a, w, hl, H, ht, he, hK => by
    cases he
    exact hK.here H ht rfl
  | k, o :: l, ρ, s, s', a, w, hl, H, ht, he, hK => by
    unfold runOps at he
    split at he
    · rename_i s1 h1
      rw [List.length_cons, List.range'_succ, wpOps_cons]
      refine stepOp_run hΓ (by have := hl 0 o rfl; simpa using this) H ht h1 fun σ a' w' h2 h3 h4 h5 => ?_
      refine runOps_run hΓ (k + 1) l (ρ ++ σ) s1 s' a' w' (fun j o' hj => by have := hl (j + 1) o' (by simpa using hj); rw [← this]; congr 1; omega) h2 h3 he ?_
      rw [h5]
      exact hK.next h4
    · cases he
end
end Go.Proofs.Ytnfbgfmdjaodgaa.Eng
