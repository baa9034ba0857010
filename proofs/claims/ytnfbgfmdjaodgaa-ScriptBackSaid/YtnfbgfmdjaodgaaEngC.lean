/- The operations that look at no row do what they say: numbers, texts, '=='. -/
import Derived.Test.YtnfbgfmdjaodgaaEngB
import Derived.Laws.StructEq
set_option linter.unusedVariables false
set_option linter.unusedSimpArgs false
namespace Go.Proofs.Ytnfbgfmdjaodgaa.Eng

section
variable {P : Program} {ρ : List Loc}

theorem asz_run {t : TypeId} {n : Nat} (h : asz P t = some n) (w : World) : (sizeOf t).run P w = .ok n w := by
  obtain ⟨i, hi, rfl⟩ := Option.map_eq_some_iff.1 h
  have := run_sizeOf (w := w) hi
  rw [this]; simp [Program.cellsOf, hi]
theorem isAgg_run {t : TypeId} {d : TypeDesc} (h : P.underlying t = some d) (w : World) : (isAgg t).run P w = .ok (aggB P t) w := by
  unfold isAgg aggB
  simp only [Sem.run_bind, run_underlying h, Result.andThen_ok, h]
  cases d <;> simp
theorem part_run {xs : List AV} {ys : List Value} (hr : VRels ρ xs ys) {t : TypeId} {off : Nat} {r : AV} (h : partOf P xs t off = some r) :
    ∃ z, VRel ρ r z ∧ ∀ w, (part t ys.toArray off).run P w = .ok z w := by
  unfold partOf at h
  cases hu : P.underlying t with
  | none => simp [hu] at h
  | some d =>
    simp only [hu, Option.isNone_some, Bool.false_eq_true, if_false] at h
    by_cases ha : aggB P t = true
    · rw [if_pos ha] at h
      obtain ⟨n, hn, rfl⟩ := Option.map_eq_some_iff.1 h
      refine ⟨.agg ((ys.drop off).take n).toArray, ⟨_, rfl, (hr.drop off).take n⟩, fun w => ?_⟩
      unfold part
      simp only [Sem.run_bind, isAgg_run hu, Result.andThen_ok, ha, if_true, asz_run hn, Sem.run_pure]
      congr 2
      apply Array.ext'
      simp [Array.toList_extract, List.extract_eq_take_drop]
    · rw [if_neg ha] at h
      obtain ⟨v, hv, hvr⟩ := hr.get off h
      refine ⟨v, hvr, fun w => ?_⟩
      unfold part
      simp only [Sem.run_bind, isAgg_run hu, Result.andThen_ok, ha, Bool.false_eq_true, if_false]
      simp [hv]

theorem addr_beq (b o i j : Nat) : (({ block := b, off := o + i } : Addr) == { block := b, off := o + j }) = (i == j) := by
  rw [Bool.eq_iff_iff]; simp
set_option maxHeartbeats 2000000
mutual
theorem aeq_run : ∀ (d : Nat) {t : TypeId} {x y : AV} {u v : Value} {b : Bool}, aeq P d t x y = some b → VRel ρ x u → VRel ρ y v → ∀ (D : Nat), d ≤ D → ∀ w, (Op.equalIn D t u v).run P w = .ok b w
  | 0, t, x, y, u, v, b, h, _, _, D, hD, w => by simp [aeq] at h
  | d + 1, t, x, y, u, v, b, h, hx, hy, D, hD, w => by
    obtain ⟨D, rfl⟩ : ∃ j, D = j + 1 := ⟨D - 1, by omega⟩
    unfold aeq at h
    split at h
    all_goals first | (simp at h; done) | skip
    · rename_i hu; cases hx; cases hy; cases h; simp [Op.equalIn, run_underlying hu]
    · rename_i hu
      split at h
      · rename_i hk; subst hk; cases hx; cases hy; cases h; simp [Op.equalIn, run_underlying hu]
      · cases h
    · rename_i hu; cases hx; cases hy; cases h; simp [Op.equalIn, run_underlying hu]
    · rename_i hu; cases hx; cases hy; cases h; simp [Op.equalIn, run_underlying hu]
    · rename_i hu; cases hx; obtain ⟨l, _, rfl⟩ := hy; cases h; simp [Op.equalIn, run_underlying hu]
    · rename_i hu; cases hy; obtain ⟨l, _, rfl⟩ := hx; cases h; simp [Op.equalIn, run_underlying hu]
    · rename_i hu
      split at h
      · rename_i k hk
        split at h
        · rename_i hab
          subst hab
          obtain ⟨l, h1, rfl⟩ := hx
          obtain ⟨l', h2, rfl⟩ := hy
          obtain rfl : l = l' := Option.some.inj (h1.symm.trans h2)
          cases h
          simp [Op.equalIn, run_underlying hu, asz_run hk, sameAddr, Loc.at, addr_beq]
        · cases h
      · cases h
    · rename_i hu; cases hx; cases hy; cases h; simp [Op.equalIn, run_underlying hu]
    · rename_i hu; cases hx; obtain ⟨z, rfl, _⟩ := hy; cases h; simp [Op.equalIn, run_underlying hu]
    · rename_i hu; cases hy; obtain ⟨z, rfl, _⟩ := hx; cases h; simp [Op.equalIn, run_underlying hu]
    · rename_i hu
      obtain ⟨z, rfl, hz⟩ := hx
      obtain ⟨z', rfl, hz'⟩ := hy
      split at h
      · rename_i hne; cases h; simp [Op.equalIn, run_underlying hu, hne]
      · rename_i hne
        split at h
        · rename_i hc
          obtain ⟨i, hi, hic⟩ := Option.map_eq_some_iff.1 hc
          have ih := aeq_run d h hz hz' D (by omega) w
          have hne' := Classical.not_not.1 hne
          subst hne'
          simp [Op.equalIn, run_underlying hu, run_typeInfo w hi, hic, ih]
        · cases h
    · rename_i fs xs ys hu
      obtain ⟨us, rfl, hus⟩ := hx
      obtain ⟨vs, rfl, hvs⟩ := hy
      split at h
      · cases h
      · rename_i hp
        have hf : P.fieldsOf t = fs := by simp [Program.fieldsOf, hu]
        rw [run_equalIn_struct w D t us.toArray vs.toArray (by rw [hf]; exact hu) (by simpa using hp), hf]
        exact aeqF_run d h hus hvs D (by omega) w
    · rename_i n e xs ys hu
      obtain ⟨us, rfl, hus⟩ := hx
      obtain ⟨vs, rfl, hvs⟩ := hy
      obtain ⟨sz, hsz, h⟩ := Option.bind_eq_some_iff.1 h
      obtain ⟨i, hi, rfl⟩ := Option.map_eq_some_iff.1 hsz
      rw [run_equalIn_array w D us.toArray vs.toArray hu hi, List.range_eq_range']
      have hc : P.cellsOf e = i.size := by simp [Program.cellsOf, hi]
      rw [hc]
      exact aeqA_run d h hus hvs D (by omega) w
    · rename_i hu; cases hx; cases hy; cases h; simp [Op.equalIn, run_underlying hu]
    · rename_i hu; cases hx; obtain ⟨l, a, _, _, _, rfl, _⟩ := hy; cases h; simp [Op.equalIn, run_underlying hu]
    · rename_i hu; cases hy; obtain ⟨l, a, _, _, _, rfl, _⟩ := hx; cases h; simp [Op.equalIn, run_underlying hu]
    · rename_i hu; cases hx; cases hy; cases h; simp [Op.equalIn, run_underlying hu]
    · rename_i hu; cases hx; obtain ⟨l, _, rfl⟩ := hy; cases h; simp [Op.equalIn, run_underlying hu]
    · rename_i hu; cases hy; obtain ⟨l, _, rfl⟩ := hx; cases h; simp [Op.equalIn, run_underlying hu]
    · rename_i hu; cases hx; cases hy; cases h; simp [Op.equalIn, run_underlying hu]
    · rename_i hu; cases hx; obtain ⟨l, rfl, _⟩ := hy; cases h; simp [Op.equalIn, run_underlying hu]
    · rename_i hu; cases hy; obtain ⟨l, rfl, _⟩ := hx; cases h; simp [Op.equalIn, run_underlying hu]
theorem aeqF_run : ∀ (d : Nat) {xs ys : List AV} {us vs : List Value} {fs : List Field} {b : Bool}, aeqF P d xs ys fs = some b → VRels ρ xs us → VRels ρ ys vs → ∀ (D : Nat), d ≤ D → ∀ w, (Op.eqFields D us.toArray vs.toArray fs).run P w = .ok b w
  | 0, xs, ys, us, vs, fs, b, h, _, _, D, hD, w => by simp [aeqF] at h
  | d + 1, xs, ys, us, vs, [], b, h, _, _, D, hD, w => by simp only [aeqF, Option.some.injEq] at h; subst h; simp [Op.eqFields]
  | d + 1, xs, ys, us, vs, f :: fs, b, h, hx, hy, D, hD, w => by
    unfold aeqF at h
    unfold Op.eqFields
    split at h
    · rename_i hn
      rw [if_neg (by simpa using hn)]
      exact aeqF_run d h hx hy D (by omega) w
    · rename_i hn
      rw [if_pos hn]
      obtain ⟨x, hx1, h⟩ := Option.bind_eq_some_iff.1 h
      obtain ⟨y, hy1, h⟩ := Option.bind_eq_some_iff.1 h
      obtain ⟨q, hq, h⟩ := Option.bind_eq_some_iff.1 h
      obtain ⟨u, hu, hur⟩ := part_run hx hx1
      obtain ⟨v, hv, hvr⟩ := part_run hy hy1
      have ih := aeq_run d hq hu hv D (by omega) w
      simp only [Sem.run_bind, hur, hvr, Result.andThen_ok, ih]
      cases q with
      | false => simp only [Bool.false_eq_true, if_false, Option.some.injEq] at h; subst h; simp
      | true => simp only [if_true] at h; simpa using aeqF_run d h hx hy D (by omega) w
theorem aeqA_run : ∀ (d : Nat) {xs ys : List AV} {us vs : List Value} {e : TypeId} {sz n i : Nat} {b : Bool}, aeqA P d xs ys e sz n i = some b → VRels ρ xs us → VRels ρ ys vs → ∀ (D : Nat), d ≤ D → ∀ w, (Op.eqItems D e sz us.toArray vs.toArray (List.range' i n)).run P w = .ok b w
  | 0, xs, ys, us, vs, e, sz, n, i, b, h, _, _, D, hD, w => by simp [aeqA] at h
  | d + 1, xs, ys, us, vs, e, sz, 0, i, b, h, _, _, D, hD, w => by simp only [aeqA, Option.some.injEq] at h; subst h; simp [Op.eqItems]
  | d + 1, xs, ys, us, vs, e, sz, n + 1, i, b, h, hx, hy, D, hD, w => by
    unfold aeqA at h
    obtain ⟨x, hx1, h⟩ := Option.bind_eq_some_iff.1 h
    obtain ⟨y, hy1, h⟩ := Option.bind_eq_some_iff.1 h
    obtain ⟨q, hq, h⟩ := Option.bind_eq_some_iff.1 h
    obtain ⟨u, hu, hur⟩ := part_run hx hx1
    obtain ⟨v, hv, hvr⟩ := part_run hy hy1
    have ih := aeq_run d hq hu hv D (by omega) w
    rw [List.range'_succ]
    simp only [Op.eqItems, Sem.run_bind, hur, hvr, Result.andThen_ok, ih]
    cases q with
    | false => simp only [Bool.false_eq_true, if_false, Option.some.injEq] at h; subst h; simp
    | true => simp only [if_true] at h; simpa using aeqA_run d h hx hy D (by omega) w
end

set_option maxHeartbeats 200000
theorem aint_run {op : BinOp} {k : IntKind} {a b : Int} {r : AV} {t : TypeId} (h : aint op k a b = some r) (hs : op ≠ .shl) (hr : op ≠ .shr) :
    ∃ z, VRel ρ r z ∧ ∀ w, (binOp op t (.int k a) (.int k b)).run P w = .ok z w := by
  cases op <;> simp only [aint] at h <;> first | (cases h; done) | skip
  all_goals first
    | (cases h; refine ⟨_, rfl, fun w => ?_⟩; simp [binOp, Op.intArith, Op.intCmp, Op.intBits, Go.bits]; done)
    | (split at h; (cases h); rename_i hz; cases h; refine ⟨_, rfl, fun w => ?_⟩; simp [binOp, Op.intDiv, hz]; done)
    | exact absurd rfl hs
    | exact absurd rfl hr
theorem ashift_run {op : BinOp} {k k' : IntKind} {a b : Int} {r : AV} {t : TypeId} (h : ashift op k a b = some r) :
    ∃ z, VRel ρ r z ∧ ∀ w, (binOp op t (.int k a) (.int k' b)).run P w = .ok z w := by
  unfold ashift at h
  split at h
  · cases h
  · rename_i hb
    cases op <;> simp only at h <;> first | (cases h; done) | skip
    all_goals (cases h; refine ⟨_, rfl, fun w => ?_⟩; simp [binOp, Op.shift, hb])
theorem astr_run {op : BinOp} {a b : ByteArray} {r : AV} {t : TypeId} (h : astr op a b = some r) :
    ∃ z, VRel ρ r z ∧ ∀ w, (binOp op t (.string a) (.string b)).run P w = .ok z w := by
  cases op <;> simp only [astr] at h <;> first | (cases h; done) | skip
  · split at h
    · rename_i hz
      cases h
      refine ⟨_, rfl, fun w => ?_⟩
      have : ¬ (((a.size + b.size : Nat) : Int) > IntKind.i64.max) := by rw [IntKind.max_i64]; omega
      simp only [binOp, Op.stringOp, if_neg this, Sem.run_pure]
    · cases h
  all_goals (cases h; refine ⟨_, rfl, fun w => ?_⟩; simp [binOp, Op.stringOp])
theorem rel_nilIface {a : AV} (h : VRel ρ a .nilIface) : a = .ni ∨ a = .bad := by
  cases a <;> simp [VRel] at h ⊢
theorem rel_agg {a : AV} {cs : Array Value} (h : VRel ρ a (.agg cs)) : (∃ xs, a = .ag xs) ∨ a = .bad := by
  cases a <;> simp [VRel] at h ⊢
theorem guard_pure (op : BinOp) (t : TypeId) (x y : Operand) {u v : Value} (h1 : ¬ (u = .nilIface ∧ v = .nilIface)) (h2 : ¬ ∃ cs ds, u = .agg cs ∧ v = .agg ds) : eqGuard op t x y u v = pure () := by
  cases u
  case nilIface => cases v <;> first | exact absurd ⟨rfl, rfl⟩ h1 | (cases op <;> rfl)
  case agg => cases v <;> first | exact absurd ⟨_, _, rfl, rfl⟩ h2 | (cases op <;> rfl)
  all_goals (cases op <;> rfl)
theorem guardAB_run {op : BinOp} {t : TypeId} {x y : Operand} {a b : AV} {u v : Value} (h : guardAB P t x y a b = true) (ha : VRel ρ a u) (hb : VRel ρ b v) (w : World) :
    (eqGuard op t x y u v).run P w = .ok () w := by
  unfold guardAB at h
  split at h
  · cases ha; cases hb
    have : (∃ c, x = .const c) ∨ (∃ c, y = .const c) := by
      cases x <;> cases y <;> simp at h ⊢
    rcases this with ⟨c, rfl⟩ | ⟨c, rfl⟩
    · rw [eqGuard_nil_constL]; simp
    · rw [eqGuard_nil_constR]; simp
  · obtain ⟨us, rfl, _⟩ := ha
    obtain ⟨vs, rfl, _⟩ := hb
    rw [run_eqGuard_agg w op t x y _ _ (by simpa using h)]
  · cases h
  · cases h
  · rename_i n1 n2 n3 n4
    rw [guard_pure op t x y]
    · simp
    · rintro ⟨rfl, rfl⟩
      rcases rel_nilIface ha with rfl | rfl <;> rcases rel_nilIface hb with rfl | rfl <;> simp_all
    · rintro ⟨cs, ds, rfl, rfl⟩
      rcases rel_agg ha with ⟨xs, rfl⟩ | rfl <;> rcases rel_agg hb with ⟨ys, rfl⟩ | rfl <;> simp_all
theorem guard_run {op : BinOp} {t : TypeId} {x y : Operand} {a b : AV} {u v : Value} (h : guardOk P op t x y a b = true) (ha : VRel ρ a u) (hb : VRel ρ b v) (w : World) :
    (eqGuard op t x y u v).run P w = .ok () w := by
  cases op <;> first | exact guardAB_run h ha hb w | (simp [eqGuard]; done)
theorem aeq_badL (d : Nat) (t : TypeId) (y : AV) : aeq P d t .bad y = none := by
  cases d with
  | zero => rfl
  | succ d => unfold aeq; split <;> first | rfl | (rename_i h; cases h) | (rename_i h _; cases h) | (rename_i _ h _; cases h)
theorem aeq_badR (d : Nat) (t : TypeId) (x : AV) : aeq P d t x .bad = none := by
  cases d with
  | zero => rfl
  | succ d => unfold aeq; split <;> first | rfl | (rename_i h; cases h) | (rename_i h _; cases h) | (rename_i _ h _; cases h)
theorem eq_fall (t : TypeId) {u v : Value} (h1 : ∀ k a k' b, ¬ (u = .int k a ∧ v = .int k' b)) (h2 : ∀ a b, ¬ (u = .string a ∧ v = .string b))
    (h3 : ∀ k a, u ≠ .float k a) (h4 : ∀ k a b, u ≠ .complex k a b) :
    binOp .eql t u v = (do pure (.bool (← Op.equal t u v))) ∧ binOp .neq t u v = (do pure (.bool (!(← Op.equal t u v)))) := by
  cases u
  case int => cases v <;> first | exact absurd ⟨rfl, rfl⟩ (h1 _ _ _ _) | exact ⟨rfl, rfl⟩
  case string => cases v <;> first | exact absurd ⟨rfl, rfl⟩ (h2 _ _) | exact ⟨rfl, rfl⟩
  case float => exact absurd rfl (h3 _ _)
  case complex => exact absurd rfl (h4 _ _ _)
  all_goals (cases v <;> exact ⟨rfl, rfl⟩)
theorem rel_int {a : AV} {k : IntKind} {n : Int} (h : VRel ρ a (.int k n)) : (∃ k n, a = .i k n) ∨ a = .bad := by
  cases a <;> simp [VRel] at h ⊢
theorem rel_string {a : AV} {s : ByteArray} (h : VRel ρ a (.string s)) : (∃ s, a = .s s) ∨ a = .bad := by
  cases a <;> simp [VRel] at h ⊢
theorem rel_float {a : AV} {k : FloatKind} {n : Nat} (h : VRel ρ a (.float k n)) : a = .bad := by
  cases a <;> simp [VRel] at h ⊢
theorem rel_complex {a : AV} {k : FloatKind} {n m : Nat} (h : VRel ρ a (.complex k n m)) : a = .bad := by
  cases a <;> simp [VRel] at h ⊢
theorem abin_run {op : BinOp} {t : TypeId} {x y r : AV} {u v : Value} (h : abin P op t x y = some r) (hx : VRel ρ x u) (hy : VRel ρ y v) :
    ∃ z, VRel ρ r z ∧ ∀ w, (binOp op t u v).run P w = .ok z w := by
  unfold abin at h
  split at h
  · cases hx; cases hy
    split at h
    · exact ashift_run h
    · exact ashift_run h
    · rename_i n1 n2
      split at h
      · rename_i hk
        subst hk
        exact aint_run h n1 n2
      · cases h
  · cases hx; cases hy
    exact astr_run h
  · rename_i n1 n2
    have hu : ∀ (b : Bool), aeq P 200 t x y = some b → ∀ w, (binOp .eql t u v).run P w = .ok (.bool b) w ∧ (binOp .neq t u v).run P w = .ok (.bool (!b)) w := by
      intro b hb w
      have hr := aeq_run 200 hb hx hy 10000 (by decide) w
      have bx : x ≠ .bad := by rintro rfl; rw [aeq_badL] at hb; cases hb
      have by' : y ≠ .bad := by rintro rfl; rw [aeq_badR] at hb; cases hb
      have hf := eq_fall t (u := u) (v := v) (by
          rintro k a k' b ⟨rfl, rfl⟩
          rcases rel_int hx with ⟨_, _, rfl⟩ | rfl
          · rcases rel_int hy with ⟨_, _, rfl⟩ | rfl
            · exact n1 _ _ _ _ rfl rfl
            · exact by' rfl
          · exact bx rfl) (by
          rintro a b ⟨rfl, rfl⟩
          rcases rel_string hx with ⟨_, rfl⟩ | rfl
          · rcases rel_string hy with ⟨_, rfl⟩ | rfl
            · exact n2 _ _ rfl rfl
            · exact by' rfl
          · exact bx rfl) (by rintro k a rfl; exact bx (rel_float hx)) (by rintro k a b rfl; exact bx (rel_complex hx))
      rw [hf.1, hf.2]
      simp only [Op.equal, Op.maxDepth, Sem.run_bind, hr, Result.andThen_ok, Sem.run_pure, and_self]
    split at h
    · obtain ⟨b, hb, rfl⟩ := Option.map_eq_some_iff.1 h
      exact ⟨_, rfl, fun w => (hu b hb w).1⟩
    · obtain ⟨b, hb, rfl⟩ := Option.map_eq_some_iff.1 h
      exact ⟨_, rfl, fun w => (hu b hb w).2⟩
    · cases h
theorem aun_run {op : UnOp} {x r : AV} {u : Value} (h : aun op x = some r) (hx : VRel ρ x u) : ∃ z, VRel ρ r z ∧ ∀ w, (Op.unary op u).run P w = .ok z w := by
  unfold aun at h
  split at h
  · cases hx; cases h; exact ⟨_, rfl, fun w => by simp [Op.unary, Op.intArith]⟩
  · cases hx; cases h; exact ⟨_, rfl, fun w => by simp [Op.unary, Op.intBits, Go.bits]⟩
  · cases hx; cases h; exact ⟨_, rfl, fun w => by simp [Op.unary]⟩
  · cases h
theorem aconv_run {src dst : TypeId} {x r : AV} {u : Value} (h : aconv P src dst x = some r) (hx : VRel ρ x u) : ∃ z, VRel ρ r z ∧ ∀ w, (convert src dst u).run P w = .ok z w := by
  unfold aconv at h
  split at h
  · rename_i h1 h2; cases hx; cases h; exact ⟨_, rfl, fun w => by simp [convert, run_underlying h1, run_underlying h2, Conv.intToInt]⟩
  · rename_i h1 h2; cases hx; cases h
    exact ⟨_, rfl, fun w => by simp [convert, run_underlying h1, run_underlying h2]⟩
  · cases h
end
end Go.Proofs.Ytnfbgfmdjaodgaa.Eng
