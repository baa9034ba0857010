/- The operations that look at no row do what they say: parts of aggregates, addresses, cuts; all of them in one. -/
import Derived.Test.YtnfbgfmdjaodgaaEngC
set_option linter.unusedVariables false
set_option linter.unusedSimpArgs false
namespace Go.Proofs.Ytnfbgfmdjaodgaa.Eng

section
variable {P : Program} {ρ : List Loc}

theorem good_ne {a : AV} (h : a.good = true) : a ≠ .bad := by rintro rfl; cases h
theorem zero_run {t : TypeId} {v : Value} (hv : (P.info? t).bind (·.zero) = some v) (w : World) : (zeroValue t).run P w = .ok v w := by
  obtain ⟨i, hi, hz⟩ := Option.bind_eq_some_iff.1 hv
  simp only [zeroValue, Sem.run_bind, run_typeInfo w hi, Result.andThen_ok, hz, Sem.run_pure]
theorem zeroC_run {t : TypeId} {z : List AV} (h : zeroC P t = some z) : ∃ v, (P.info? t).bind (·.zero) = some v ∧ VRels ρ z v.cells.toList ∧ ∀ w, (zeroValue t).run P w = .ok v w := by
  unfold zeroC at h
  obtain ⟨v, hv, h⟩ := Option.bind_eq_some_iff.1 h
  split at h
  · rename_i hg
    cases h
    exact ⟨v, hv, (ofV_rel v).cells (good_ne hg), zero_run hv⟩
  · cases h
theorem fold_toList (us : List Value) : ∀ (o k : Nat) (cs : Array Value), ((us.zipIdx k).foldl (fun (cs : Array Value) q => cs.setIfInBounds (o + q.2) q.1) cs).toList = (us.zipIdx (o + k)).foldl (fun (c : List Value) q => c.set q.2 q.1) cs.toList := by
  induction us with
  | nil => intro o k cs; rfl
  | cons u us ih =>
    intro o k cs
    simp only [List.zipIdx_cons, List.foldl_cons]
    rw [ih o (k + 1), Array.toList_setIfInBounds, Nat.add_assoc]
theorem afill_run {pl : Nat → Option (Nat × Nat)} : ∀ {parts : List (Nat × AV)} {c r : List AV} {vs : List (Nat × Value)} {us : Array Value}, afill pl c parts = some r →
    VRels ρ c us.toList → List.map Prod.fst parts = List.map Prod.fst vs → VRels ρ (parts.map Prod.snd) (vs.map Prod.snd) → (∀ q ∈ parts, q.2 ≠ .bad) →
    ∃ zs : Array Value, Instr.fill pl us vs = some zs ∧ VRels ρ r zs.toList
  | [], c, r, vs, us, h, hc, h1, h2, _ => by
    cases vs with
    | cons => simp at h1
    | nil => simp only [afill, Option.some.injEq] at h; subst h; exact ⟨us, rfl, hc⟩
  | (i, a) :: rest, c, r, vs, us, h, hc, h1, h2, h3 => by
    cases vs with
    | nil => simp at h1
    | cons q vs =>
      obtain ⟨i', v⟩ := q
      simp only [List.map_cons, List.cons.injEq] at h1
      obtain ⟨rfl, h1⟩ := h1
      obtain ⟨y, ys, he, hav, hrest⟩ := h2
      simp only [List.map_cons, List.cons.injEq] at he
      obtain ⟨rfl, rfl⟩ := he
      simp only [afill] at h
      split at h
      · cases h
      · rename_i off sz hpl
        split at h
        · rename_i hcond
          have hcells := hav.cells (h3 (i, a) (by simp))
          have hl := hcells.length
          have hlc := hc.length
          simp only [Array.length_toList] at hl hlc
          obtain ⟨zs, hz, hr⟩ := afill_run (us := v.cells.zipIdx.foldl (fun cs q => cs.setIfInBounds (off + q.2) q.1) us) h (by
            have := hc.setAll off hcells
            rw [← Array.foldl_toList, Array.toList_zipIdx, fold_toList, Nat.add_zero]
            exact this) h1 hrest (fun q hq => h3 q (by simp [hq]))
          refine ⟨zs, ?_, hr⟩
          simp only [Instr.fill, hpl]
          rw [if_neg]
          · exact hz
          · simp only [Bool.or_eq_true, decide_eq_true_eq, not_or, ne_eq, Nat.not_lt]
            exact ⟨by omega, by omega⟩
        · cases h
theorem parts_rel {E : Operand → AV} {e : Operand → Value} (hE : ∀ x, VRel ρ (E x) (e x)) : ∀ (l : List (Nat × Operand)),
    List.map Prod.fst (l.map fun q => (q.1, E q.2)) = List.map Prod.fst (l.map fun q => (q.1, e q.2)) ∧ VRels ρ ((l.map fun q => (q.1, E q.2)).map Prod.snd) ((l.map fun q => (q.1, e q.2)).map Prod.snd)
  | [] => ⟨rfl, rfl⟩
  | q :: l => ⟨by simp, ⟨_, _, rfl, hE q.2, (parts_rel hE l).2⟩⟩
theorem mapM_places : ∀ (fs : List Field), fs.all (fun f => (asz P f.type).isSome) = true → ∀ w,
    (fs.mapM fun f => do pure (f.offset, ← sizeOf f.type) : Sem (List (Nat × Nat))).run P w = .ok (fs.map fun f => (f.offset, (asz P f.type).getD 0)) w
  | [], _, w => by simp
  | f :: fs, h, w => by
    simp only [List.all_cons, Bool.and_eq_true] at h
    obtain ⟨n, hn⟩ := Option.isSome_iff_exists.1 h.1
    simp only [List.mapM_cons, Sem.run_bind, asz_run hn, Result.andThen_ok, Sem.run_pure, mapM_places fs h.2 w, List.map_cons, hn, Option.getD_some]
theorem aplace_eq {fs : Array Field} (h : fs.toList.all (fun f => (asz P f.type).isSome) = true) : aplace P fs = fun i => (fs.toList.map fun f => (f.offset, (asz P f.type).getD 0)).toArray[i]? := by
  funext i
  unfold aplace
  simp only [List.getElem?_toArray, List.getElem?_map, Array.getElem?_toList]
  cases hi : fs[i]? with
  | none => rfl
  | some f =>
    have hf : f ∈ fs.toList := by
      have := Array.mem_of_getElem? hi
      exact Array.mem_toList_iff.2 this
    obtain ⟨n, hn⟩ := Option.isSome_iff_exists.1 (List.all_eq_true.1 h f hf)
    simp [hn]
theorem abuild_run {t : TypeId} {E : Operand → AV} {e : Operand → Value} (hE : ∀ x, VRel ρ (E x) (e x)) {parts : Array (Nat × Operand)} {r : AV}
    (h : abuild P t (parts.toList.map fun q => (q.1, E q.2)) = some r) : ∃ z, VRel ρ r z ∧ ∀ w, (Instr.build t (parts.map fun (i, x) => (i, e x))).run P w = .ok z w := by
  unfold abuild at h
  split at h
  · rename_i hgood
    obtain ⟨z, hz, h⟩ := Option.bind_eq_some_iff.1 h
    obtain ⟨v, hv, hvr, hvw⟩ := zeroC_run (ρ := ρ) hz
    obtain ⟨hp1, hp2⟩ := parts_rel hE parts.toList
    have hparts : ∀ q ∈ parts.toList.map (fun q => (q.1, E q.2)), q.2 ≠ .bad := fun q hq => good_ne (List.all_eq_true.1 hgood q hq)
    have hcs : (parts.map fun (i, x) => (i, e x)).toList = parts.toList.map fun q => (q.1, e q.2) := by simp
    split at h
    · rename_i fs hu
      split at h
      · rename_i hall
        obtain ⟨c, hc, rfl⟩ := Option.map_eq_some_iff.1 h
        obtain ⟨zs, hzs, hzr⟩ := afill_run hc hvr hp1 hp2 hparts
        refine ⟨.agg zs, ⟨zs.toList, by simp, hzr⟩, fun w => ?_⟩
        unfold Instr.build
        have hm : (fs.mapM fun f => do pure (f.offset, ← sizeOf f.type) : Sem (Array (Nat × Nat))).run P w = .ok (fs.toList.map fun f => (f.offset, (asz P f.type).getD 0)).toArray w := by
          rw [Array.mapM_eq_mapM_toList]
          have := mapM_places (P := P) fs.toList hall w
          rw [map_eq_pure_bind]
          simp only [Sem.run_bind, this, Result.andThen_ok, Sem.run_pure]
        simp only [Sem.run_bind, hvw, Result.andThen_ok, run_underlying hu, hm]
        rw [← aplace_eq hall, hcs, hzs]
        simp
      · cases h
    · rename_i n e' hu
      obtain ⟨n, hn, h⟩ := Option.bind_eq_some_iff.1 h
      obtain ⟨c, hc, rfl⟩ := Option.map_eq_some_iff.1 h
      obtain ⟨zs, hzs, hzr⟩ := afill_run hc hvr hp1 hp2 hparts
      refine ⟨.agg zs, ⟨zs.toList, by simp, hzr⟩, fun w => ?_⟩
      unfold Instr.build
      simp only [Sem.run_bind, hvw, Result.andThen_ok, run_underlying hu, asz_run hn]
      rw [hcs, hzs]
      simp
    · cases h
  · cases h
theorem add_at (l : Loc) (o n : Nat) : (l.at o).add n = l.at (o + n) := by simp [Loc.at, Addr.add_lit, Nat.add_assoc]
theorem afieldAddr_run {t : TypeId} {x r : AV} {u : Value} {f : Nat} (h : afieldAddr P t x f = some r) (hx : VRel ρ x u) : ∃ z, VRel ρ r z ∧ ∀ w, (Instr.fieldAt t u f).run P w = .ok z w := by
  unfold afieldAddr at h
  split at h
  · rename_i fs id off hu
    obtain ⟨fd, hf, h⟩ := Option.bind_eq_some_iff.1 h
    split at h
    · rename_i k hk
      cases h
      obtain ⟨l, hl, rfl⟩ := hx
      refine ⟨_, ⟨l, hl, rfl⟩, fun w => ?_⟩
      simp only [Instr.fieldAt, Sem.run_bind, run_underlying hu, Result.andThen_ok, hf, Instr.sureAddr, Sem.run_pure, fieldPlace, asz_run hk, Nat.add_eq_zero_iff, Nat.succ_ne_zero, and_false, if_false, Nat.succ_eq_add_one, add_at]
    · cases h
  · cases h
theorem afield_run {t : TypeId} {x r : AV} {u : Value} {f : Nat} (h : afield P t x f = some r) (hx : VRel ρ x u) : ∃ z, VRel ρ r z ∧ ∀ w, (Instr.field t u f).run P w = .ok z w := by
  unfold afield at h
  split at h
  · rename_i fs xs hu
    obtain ⟨fd, hf, h⟩ := Option.bind_eq_some_iff.1 h
    obtain ⟨ys, rfl, hr⟩ := hx
    obtain ⟨z, hz, hzw⟩ := part_run hr h
    refine ⟨z, hz, fun w => ?_⟩
    simp only [Instr.field, Sem.run_bind, run_underlying hu, Result.andThen_ok, hf, asAgg, Sem.run_pure, hzw]
  · cases h
theorem aindexAddr_run {t : TypeId} {x ix r : AV} {u v : Value} (h : aindexAddr P t x ix = some r) (hx : VRel ρ x u) (hi : VRel ρ ix v) : ∃ z, VRel ρ r z ∧ ∀ w, (Instr.indexAt t u v).run P w = .ok z w := by
  unfold aindexAddr at h
  split at h
  · rename_i n e id off k i hu
    obtain ⟨sz, hsz, h⟩ := Option.bind_eq_some_iff.1 h
    split at h
    · rename_i hb
      cases h; cases hi
      obtain ⟨l, hl, rfl⟩ := hx
      refine ⟨_, ⟨l, hl, rfl⟩, fun w => ?_⟩
      simp only [Instr.indexAt, Sem.run_bind, run_underlying hu, Result.andThen_ok, asIntOf, Instr.sureAddr, Sem.run_pure, hb, and_self, if_true, asz_run hsz, add_at]
    · cases h
  · rename_i e id off len esz cap k i hu
    split at h
    · rename_i hb
      obtain ⟨hsz, hb⟩ := hb
      cases h; cases hi
      obtain ⟨l, a, hl, h0, h1, rfl, h3⟩ := hx
      have ha : a = l.at off := h3 (by omega)
      subst ha
      refine ⟨_, ⟨l, hl, rfl⟩, fun w => ?_⟩
      simp only [Instr.indexAt, Sem.run_bind, run_underlying hu, Result.andThen_ok, asIntOf, Sem.run_pure, hb, and_self, if_true, asz_run hsz, add_at]
    · cases h
  · cases h
theorem aindex_run {t : TypeId} {x ix r : AV} {u v : Value} (h : aindex P t x ix = some r) (hx : VRel ρ x u) (hi : VRel ρ ix v) : ∃ z, VRel ρ r z ∧ ∀ w, (Instr.index t u v).run P w = .ok z w := by
  unfold aindex at h
  split at h
  · rename_i n e xs k i hu
    obtain ⟨sz, hsz, h⟩ := Option.bind_eq_some_iff.1 h
    split at h
    · rename_i hb
      cases hi
      obtain ⟨ys, rfl, hr⟩ := hx
      obtain ⟨z, hz, hzw⟩ := part_run hr h
      refine ⟨z, hz, fun w => ?_⟩
      simp only [Instr.index, Sem.run_bind, run_underlying hu, Result.andThen_ok, asIntOf, Sem.run_pure, hb, and_self, if_true, asz_run hsz, hzw]
    · cases h
  · rename_i a k i hu
    split at h
    · rename_i hb
      obtain ⟨c, hc, rfl⟩ := Option.map_eq_some_iff.1 h
      cases hi; cases hx
      refine ⟨_, rfl, fun w => ?_⟩
      simp only [Instr.index, Sem.run_bind, run_underlying hu, Result.andThen_ok, asIntOf, Sem.run_pure, hb, if_true, hc]
    · cases h
  · cases h
theorem abnd_run {x : Option AV} {u : Option Value} {top dflt n : Nat} (h : abnd x top dflt = some n) (hx : ∀ a, x = some a → ∃ v, u = some v ∧ VRel ρ a v) (hn : x = none → u = none) :
    (x = none ∧ u = none ∧ n = dflt) ∨ (∃ v, u = some v ∧ n ≤ top ∧ ∀ (y : Nat), n ≤ y → ∀ c w, (Instr.sliceBound v y c).run P w = .ok n w) := by
  unfold abnd at h
  split at h
  · cases h; exact .inl ⟨rfl, hn rfl, rfl⟩
  · rename_i k i
    split at h
    · rename_i hb
      cases h
      obtain ⟨v, rfl, hv⟩ := hx _ rfl
      cases hv
      refine .inr ⟨_, rfl, by omega, fun y hy c w => ?_⟩
      have : 0 ≤ i ∧ i ≤ (y : Int) := ⟨hb.1, by omega⟩
      simp only [Instr.sliceBound, Sem.run_bind, asIntOf, Sem.run_pure, Result.andThen_ok, this, and_self, if_true]
    · cases h
  · cases h
theorem aassert_run {x r : AV} {u : Value} {xt asserted : TypeId} {ok : Bool} (h : aassert P x asserted ok = some r) (hx : VRel ρ x u) : ∃ z, VRel ρ r z ∧ ∀ w, (Instr.typeAssert u xt asserted ok).run P w = .ok z w := by
  unfold aassert at h
  split at h
  · cases h
  · rename_i d t v hni hu
    obtain ⟨y, rfl, hy⟩ := hx
    split at h
    · rename_i ht
      subst ht
      split at h
      · rename_i hok
        cases h; subst hok
        refine ⟨_, ⟨[y, .bool true], rfl, ⟨_, _, rfl, hy, ⟨_, _, rfl, rfl, rfl⟩⟩⟩, fun w => ?_⟩
        cases d <;> first | exact absurd rfl (hni _) | simp [Instr.typeAssert, run_underlying hu]
      · rename_i hok
        have hok' : ok = false := by simpa using hok
        cases h; subst hok'
        refine ⟨_, hy, fun w => ?_⟩
        cases d <;> first | exact absurd rfl (hni _) | simp [Instr.typeAssert, run_underlying hu]
    · rename_i ht
      split at h
      · rename_i hok
        subst hok
        obtain ⟨z, hz, rfl⟩ := Option.map_eq_some_iff.1 h
        refine ⟨_, ⟨[z, .bool false], rfl, ⟨_, _, rfl, ofV_rel z, ⟨_, _, rfl, rfl, rfl⟩⟩⟩, fun w => ?_⟩
        cases d <;> first | exact absurd rfl (hni _) | simp [Instr.typeAssert, run_underlying hu, ht, zero_run hz]
      · cases h
  · rename_i d hni hu
    cases hx
    split at h
    · rename_i hok
      subst hok
      obtain ⟨z, hz, rfl⟩ := Option.map_eq_some_iff.1 h
      refine ⟨_, ⟨[z, .bool false], rfl, ⟨_, _, rfl, ofV_rel z, ⟨_, _, rfl, rfl, rfl⟩⟩⟩, fun w => ?_⟩
      cases d <;> first | exact absurd rfl (hni _) | simp [Instr.typeAssert, run_underlying hu, zero_run hz]
    · cases h
  · cases h
theorem bounds_run {isSlice : Bool} {lo hi : Option AV} {u v : Option Value} {len cap top h l : Nat} (hh : abnd hi top len = some h) (hl : abnd lo h 0 = some l) (htop : top ≤ cap) (hlen : len ≤ cap)
    (h1 : ∀ a, hi = some a → ∃ x, v = some x ∧ VRel ρ a x) (h1n : hi = none → v = none) (h2 : ∀ a, lo = some a → ∃ x, u = some x ∧ VRel ρ a x) (h2n : lo = none → u = none) (w : World) :
    (Instr.sliceBounds isSlice len cap u v none).run P w = .ok (l, h, cap) w ∧ h ≤ cap ∧ l ≤ h := by
  have H := abnd_run (P := P) hh h1 h1n
  have L := abnd_run (P := P) hl h2 h2n
  unfold Instr.sliceBounds
  rcases H with ⟨rfl, rfl, rfl⟩ | ⟨x, rfl, hx, hr⟩ <;> rcases L with ⟨rfl, rfl, rfl⟩ | ⟨y, rfl, hy, hs⟩
  · simp [hlen]
  · simp [hs _ hy, hlen, hy]
  · have hc : h ≤ cap := by omega
    simp [hr cap hc, hc]
  · have hc : h ≤ cap := by omega
    have e1 := hr cap hc
    have e2 := hs _ hy
    refine ⟨?_, hc, hy⟩
    simp only [Sem.run_bind, e1, e2, Sem.run_pure, Result.andThen_ok]
theorem opt_rel {E : Operand → AV} {e : Operand → Value} (hE : ∀ x, VRel ρ (E x) (e x)) (o : Option Operand) : (∀ a, o.map E = some a → ∃ v, o.map e = some v ∧ VRel ρ a v) ∧ (o.map E = none → o.map e = none) := by
  cases o with
  | none => exact ⟨fun a h => (by cases h), fun _ => rfl⟩
  | some x => exact ⟨fun a h => (by cases h; exact ⟨_, rfl, hE x⟩), fun h => (by cases h)⟩
theorem aslice_run {t : TypeId} {x r : AV} {u : Value} {E : Operand → AV} {e : Operand → Value} (hE : ∀ x, VRel ρ (E x) (e x)) {lo hi mx : Option Operand}
    (h : aslice P t x (lo.map E) (hi.map E) (mx.map E) = some r) (hx : VRel ρ x u) : ∃ z, VRel ρ r z ∧ ∀ w, (Instr.sliceAt t u (lo.map e) (hi.map e) (mx.map e)).run P w = .ok z w := by
  obtain ⟨lo1, lo2⟩ := opt_rel hE lo
  obtain ⟨hi1, hi2⟩ := opt_rel hE hi
  cases mx with
  | some m =>
    unfold aslice at h
    split at h <;> first | (cases h; done) | (rename_i hm; simp at hm) | (rename_i hm _; simp at hm) | (rename_i _ hm _; simp at hm)
  | none =>
    simp only [Option.map_none] at h ⊢
    unfold aslice at h
    split at h
    · rename_i a hu _
      obtain ⟨hh, hh1, h⟩ := Option.bind_eq_some_iff.1 h
      obtain ⟨ll, hl1, rfl⟩ := Option.map_eq_some_iff.1 h
      cases hx
      refine ⟨_, rfl, fun w => ?_⟩
      have hb := bounds_run (P := P) (isSlice := false) hh1 hl1 (Nat.le_refl _) (Nat.le_refl _) hi1 hi2 lo1 lo2 w
      simp only [Instr.sliceAt, Instr.slice, Sem.run_bind, run_underlying hu, Result.andThen_ok, Option.isSome_none, Bool.false_eq_true, if_false, hb.1, Sem.run_pure]
    · rename_i e' id off len esz cap hu _
      split at h
      · rename_i hsz
        obtain ⟨hh, hh1, h⟩ := Option.bind_eq_some_iff.1 h
        obtain ⟨ll, hl1, rfl⟩ := Option.map_eq_some_iff.1 h
        obtain ⟨l, a, hl, h0, h2, rfl, h4⟩ := hx
        have htop : cap.getD len ≤ capOf l off esz cap := by
          cases cap with
          | none => exact h2
          | some c => exact Nat.le_refl _
        have hb := fun w => bounds_run (P := P) (isSlice := true) hh1 hl1 htop h2 hi1 hi2 lo1 lo2 w
        obtain ⟨-, b1, b2⟩ := hb default
        have hcap : capOf l (off + ll * esz) esz (cap.map fun c => c - ll) = capOf l off esz cap - ll := by
          cases cap with
          | some c => rfl
          | none =>
            simp only [Option.map_none, capOf]
            rw [← Nat.sub_sub, Nat.mul_comm ll esz, Nat.sub_mul_div]
        refine ⟨.slice (if capOf l off esz cap = ll then some a else (some a).map (·.add (ll * esz))) (hh - ll) (capOf l off esz cap - ll), ?_, fun w => ?_⟩
        · by_cases hc : capOf l off esz cap = ll
          · refine ⟨l, a, hl, h0, by rw [hcap]; omega, by rw [hcap, if_pos hc], ?_⟩
            rw [hcap]; intro hpos; omega
          · refine ⟨l, a.add (ll * esz), hl, h0, by rw [hcap]; omega, by rw [hcap, if_neg hc]; rfl, ?_⟩
            intro _
            rw [h4 (by omega), add_at]
        · simp only [Instr.sliceAt, Instr.slice, Sem.run_bind, run_underlying hu, Result.andThen_ok, (hb w).1, asz_run hsz, Sem.run_pure]
      · cases h
    · rename_i e' hu _
      split at h
      · rename_i hsz
        obtain ⟨sz, hsz⟩ := Option.isSome_iff_exists.1 hsz
        obtain ⟨hh, hh1, h⟩ := Option.bind_eq_some_iff.1 h
        obtain ⟨ll, hl1, rfl⟩ := Option.map_eq_some_iff.1 h
        cases hx
        have hb := fun w => bounds_run (P := P) (isSlice := true) hh1 hl1 (Nat.le_refl _) (Nat.le_refl _) hi1 hi2 lo1 lo2 w
        obtain ⟨-, b1, b2⟩ := hb default
        refine ⟨_, rfl, fun w => ?_⟩
        obtain rfl : hh = 0 := by omega
        obtain rfl : ll = 0 := by omega
        simp only [Instr.sliceAt, Instr.slice, Sem.run_bind, run_underlying hu, Result.andThen_ok, (hb w).1, asz_run hsz, Sem.run_pure]
        rfl
      · cases h
    · rename_i n e' id off hu _
      split at h
      · rename_i k hk
        obtain ⟨hh, hh1, h⟩ := Option.bind_eq_some_iff.1 h
        obtain ⟨ll, hl1, rfl⟩ := Option.map_eq_some_iff.1 h
        obtain ⟨l, hl, rfl⟩ := hx
        have hb := fun w => bounds_run (P := P) (isSlice := false) hh1 hl1 (Nat.le_refl _) (Nat.le_refl _) hi1 hi2 lo1 lo2 w
        obtain ⟨-, b1, b2⟩ := hb default
        refine ⟨.slice (some (if n = ll then l.at off else (l.at off).add (ll * (k + 1)))) (hh - ll) (n - ll), ⟨l, _, hl, by omega, ?_, rfl, ?_⟩, fun w => ?_⟩
        · simp only [capOf]; omega
        · simp only [capOf]; intro hpos; rw [if_neg (by omega), add_at]
        · simp only [Instr.sliceAt, Sem.run_bind, run_underlying hu, Result.andThen_ok, Instr.sureAddr, Sem.run_pure, (hb w).1, asz_run hk]
      · cases h
    · cases h
theorem alen_run {t : TypeId} {x r : AV} {u : Value} (h : alen P t x = some r) (hx : VRel ρ x u) : ∃ z, VRel ρ r z ∧ ∀ ty w, (Builtin.len_ #[t] ty #[u]).run P w = .ok z w := by
  unfold alen at h
  split at h
  · rename_i hu; cases h; cases hx; exact ⟨_, rfl, fun ty w => by simp [Builtin.len_, run_underlying hu, goInt]⟩
  · rename_i n e hu; cases h; exact ⟨_, rfl, fun ty w => by simp [Builtin.len_, run_underlying hu, goInt]⟩
  · rename_i hu; cases h; cases hx; exact ⟨_, rfl, fun ty w => by simp [Builtin.len_, run_underlying hu, goInt]⟩
  · rename_i hu; cases h; obtain ⟨l, a, _, _, _, rfl, _⟩ := hx; exact ⟨_, rfl, fun ty w => by simp [Builtin.len_, run_underlying hu, goInt]⟩
  · cases h
theorem arr_of {α : Type} {a : Array α} {l : List α} (h : a.toList = l) : a = l.toArray := by subst h; simp
theorem abuiltin_run {E : Operand → AV} {e : Operand → Value} (hE : ∀ x, VRel ρ (E x) (e x)) {c : Call} (ty : TypeId) {r : AV} (h : abuiltin P E c = some r) :
    ∃ z, VRel ρ r z ∧ ∀ w, (do let d ← resolve e c ty; invoke d.target d.args : Sem Next).run P w = .ok (.value z) w := by
  obtain ⟨callee, args, tys⟩ := c
  unfold abuiltin at h
  split at h
  · rename_i hc
    simp only at hc
    subst hc
    split at h
    · rename_i x t ha ht
      simp only at ha ht
      obtain rfl := arr_of ha
      obtain rfl := arr_of ht
      obtain ⟨z, hz, hw⟩ := alen_run h (hE x)
      exact ⟨z, hz, fun w => by simp [resolve, invoke, builtin, hw]⟩
    · cases h
  · rename_i hc
    simp only at hc
    subst hc
    split at h
    · rename_i x y ha
      simp only at ha
      obtain rfl := arr_of ha
      have hx := hE x
      have hy := hE y
      unfold amax at h
      split at h
      · rename_i k a k' b h1 h2
        rw [h1] at hx
        rw [h2] at hy
        have hx' : e x = .int k a := hx
        have hy' : e y = .int k' b := hy
        cases h
        exact ⟨_, rfl, fun w => by simp [resolve, invoke, builtin, hx', hy', Builtin.max_, Builtin.max2]⟩
      · cases h
    · cases h
  · rename_i hc
    simp only at hc
    subst hc
    split at h
    · rename_i x y ha
      simp only at ha
      obtain rfl := arr_of ha
      have hx := hE x
      have hy := hE y
      unfold amin at h
      split at h
      · rename_i k a k' b h1 h2
        rw [h1] at hx
        rw [h2] at hy
        have hx' : e x = .int k a := hx
        have hy' : e y = .int k' b := hy
        cases h
        exact ⟨_, rfl, fun w => by simp [resolve, invoke, builtin, hx', hy', Builtin.min_, Builtin.min2]⟩
      · cases h
    · cases h
  · cases h
theorem apure_run {E : Operand → AV} {e : Operand → Value} (hE : ∀ x, VRel ρ (E x) (e x)) {o : Oper} {r : AV} (h : apure P E o.op = some r) :
    ∃ z, VRel ρ r z ∧ ∀ w, (execOp e o).run P w = .ok (.value z) w := by
  obtain ⟨dst, op, ty, pos, after, guard⟩ := o
  simp only at h
  unfold apure at h
  unfold execOp
  split at h
  · cases h; exact ⟨_, hE _, fun w => by simp⟩
  · cases h; exact ⟨_, hE _, fun w => by simp⟩
  · rename_i c a b
    split at h
    · rename_i t ht
      have hc := hE c
      rw [ht] at hc
      have hc' : e c = .bool t := hc
      cases h
      cases t
      · exact ⟨_, hE b, fun w => by simp [hc', asBool]⟩
      · exact ⟨_, hE a, fun w => by simp [hc', asBool]⟩
    · cases h
  · rename_i t parts
    obtain ⟨z, hz, hw⟩ := abuild_run hE h
    exact ⟨z, hz, fun w => by simp only [Sem.run_bind, hw, Result.andThen_ok, Sem.run_pure]⟩
  · rename_i x
    have hx := hE x
    split at h
    · rename_i id off he
      rw [he] at hx
      have hx' := hx
      obtain ⟨l, hl, hv⟩ := hx
      cases h
      exact ⟨_, hx', fun w => by simp [hv]⟩
    · rename_i t v he
      rw [he] at hx
      have hx' := hx
      obtain ⟨y, hv, hy⟩ := hx
      cases h
      exact ⟨_, hx', fun w => by simp [hv]⟩
    · rename_i f c he
      rw [he] at hx
      have hx' := hx
      obtain ⟨y, hv, hy⟩ := hx
      cases h
      exact ⟨_, hx', fun w => by simp [hv]⟩
    · cases h
  · rename_i op' t x y _
    split at h
    · rename_i hg
      obtain ⟨z, hz, hw⟩ := abin_run h (hE x) (hE y)
      exact ⟨z, hz, fun w => by simp only [Sem.run_bind, guard_run hg (hE x) (hE y) w, Result.andThen_ok, hw, Sem.run_pure]⟩
    · cases h
  · rename_i op' _ x
    obtain ⟨z, hz, hw⟩ := aun_run (P := P) h (hE x)
    exact ⟨z, hz, fun w => by simp only [Sem.run_bind, Result.andThen_ok, hw, Sem.run_pure]⟩
  · rename_i src dst x
    obtain ⟨z, hz, hw⟩ := aconv_run h (hE x)
    exact ⟨z, hz, fun w => by simp only [Sem.run_bind, Result.andThen_ok, hw, Sem.run_pure]⟩
  · rename_i t x
    split at h
    · cases h
    · rename_i d hni hu
      split at h
      · cases h
      · cases h
        refine ⟨_, ⟨_, rfl, hE x⟩, fun w => ?_⟩
        have hni' : ∀ m, d ≠ .interface m := fun m hm => hni m (by rw [hm])
        cases d <;> first | exact absurd rfl (hni' _) | simp [Instr.makeInterface, run_underlying hu]
    · cases h
  · rename_i f first captured
    split at h
    · rename_i hf
      cases h
      have : first = #[] := Array.eq_empty_of_size_eq_zero hf
      subst this
      refine ⟨_, ⟨captured.toList.map e, rfl, VRels.map _ fun x _ => hE x⟩, fun w => ?_⟩
      simp only [Instr.makeFunc, Sem.run_bind, Sem.run_pure, Result.andThen_ok, Array.map_empty]
      congr 3
      apply Array.ext'
      simp
    · cases h
  · rename_i t x f
    obtain ⟨z, hz, hw⟩ := afieldAddr_run h (hE x)
    exact ⟨z, hz, fun w => by simp only [Sem.run_bind, Result.andThen_ok, hw, Sem.run_pure]⟩
  · rename_i t x f
    obtain ⟨z, hz, hw⟩ := afield_run h (hE x)
    exact ⟨z, hz, fun w => by simp only [Sem.run_bind, Result.andThen_ok, hw, Sem.run_pure]⟩
  · rename_i t x ix
    obtain ⟨z, hz, hw⟩ := aindexAddr_run h (hE x) (hE ix)
    exact ⟨z, hz, fun w => by simp only [Sem.run_bind, Result.andThen_ok, hw, Sem.run_pure]⟩
  · rename_i t x ix
    obtain ⟨z, hz, hw⟩ := aindex_run h (hE x) (hE ix)
    exact ⟨z, hz, fun w => by simp only [Sem.run_bind, Result.andThen_ok, hw, Sem.run_pure]⟩
  · rename_i t x lo hi mx
    obtain ⟨z, hz, hw⟩ := aslice_run hE h (hE x)
    exact ⟨z, hz, fun w => by simp only [Sem.run_bind, Result.andThen_ok, hw, Sem.run_pure]⟩
  · rename_i t ix
    split at h
    · rename_i xs hxs
      have ht := hE t
      rw [hxs] at ht
      obtain ⟨ys, hv, hr⟩ := ht
      obtain ⟨v, hv', hvr⟩ := hr.get ix h
      exact ⟨v, hvr, fun w => by simp [hv, Instr.extract, hv']⟩
    · cases h
  · rename_i x xt asserted ok
    obtain ⟨z, hz, hw⟩ := aassert_run (xt := xt) h (hE x)
    exact ⟨z, hz, fun w => by simp only [Sem.run_bind, Result.andThen_ok, hw, Sem.run_pure]⟩
  · rename_i c
    exact abuiltin_run hE ty h
  · cases h
end
end Go.Proofs.Ytnfbgfmdjaodgaa.Eng
