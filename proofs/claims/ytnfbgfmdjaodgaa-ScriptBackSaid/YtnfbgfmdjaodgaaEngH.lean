/- Operations that lay rows or write them do what they say. -/
import Derived.Test.YtnfbgfmdjaodgaaEngG
import Derived.IntWalk
import Derived.Laws.NewFold
set_option linter.unusedVariables false
set_option linter.unusedSimpArgs false
namespace Go.Proofs.Ytnfbgfmdjaodgaa.Eng
open Go.RowKit

def EffOk (own : Nat → Prop) (ρ : List Loc) (w : World) (r : AV) (h' : Hp) (res : Result Next) : Prop :=
  ∃ σ z w', (res = .ok (.value z) w' ∨ (res = .ok .skip w' ∧ z = undef)) ∧ HRel own (ρ ++ σ) h' w' ∧ VRel (ρ ++ σ) r z ∧ Keeps own w w'

section
variable {P : Program} {own : Nat → Prop} {ρ : List Loc} {h : Hp} {w : World}

theorem last_loc (H : HRel own ρ h w) (l : Loc) : (ρ ++ [l])[h.length]? = some l := by
  rw [← H.len, List.getElem?_append_right (Nat.le_refl _)]; simp
theorem take_self {c : List AV} {vs : List Value} (hr : VRels ρ c vs) : VRels ρ c (vs.take c.length) := by
  have := hr.length
  rw [List.take_of_length_le (by omega)]; exact hr
theorem alloc_eff (H : HRel own ρ h w) {t : TypeId} {c : List AV} (hz : zeroC P t = some c) :
    EffOk own ρ w (.p h.length 0) (h ++ [.cells c true]) ((Instr.alloc t true (.tuple #[])).run P w |>.andThen fun v w' => .ok (.value v) w') := by
  obtain ⟨v, hv, hr, hw⟩ := zeroC_run (ρ := ρ) hz
  have hl := hr.length
  refine ⟨[⟨w.heap.size, 0, v.cells.size⟩], .pointer (some ⟨w.heap.size, 0, none⟩), w.alloc (.cells v.cells t), .inl ?_, ?_, ⟨_, last_loc H _, rfl⟩, keeps_alloc H _⟩
  · simp only [Instr.alloc, Sem.run_bind, hw, Result.andThen_ok, newVar, newRow, run_newObj_alloc, Sem.run_pure]
  · exact new_rel H v.cells t (0, 0) (take_self hr) (by simp at hl; omega) (.inr rfl)
theorem box_eff (H : HRel own ρ h w) {t : TypeId} {x : AV} {v : Value} (hg : x.good = true) (hx : VRel ρ x v) :
    EffOk own ρ w (.p h.length 0) (h ++ [.cells x.cells true]) ((Instr.box t v).run P w |>.andThen fun v w' => .ok (.value v) w') := by
  have hr := hx.cells (good_ne hg)
  have hl := hr.length
  refine ⟨[⟨w.heap.size, 0, v.cells.size⟩], .pointer (some ⟨w.heap.size, 0, none⟩), w.alloc (.cells v.cells t), .inl ?_, ?_, ⟨_, last_loc H _, rfl⟩, keeps_alloc H _⟩
  · simp only [Instr.box, Sem.run_bind, Result.andThen_ok, newVar, newRow, run_newObj_alloc, Sem.run_pure]
  · exact new_rel H v.cells t (0, 0) (take_self hr) (by simp at hl; omega) (.inr rfl)
theorem buildSlice_eff (H : HRel own ρ h w) {t : TypeId} {len : Nat} {E : Operand → AV} {e : Operand → Value} (hE : ∀ x, VRel ρ (E x) (e x)) {parts : Array (Nat × Operand)} {r : AV} {h' : Hp}
    (hb : abuildSlice P h t len (parts.toList.map fun q => (q.1, E q.2)) = some (r, h')) :
    EffOk own ρ w r h' ((Instr.buildSlice t len (parts.map fun (i, x) => (i, e x))).run P w |>.andThen fun v w' => .ok (.value v) w') := by
  unfold abuildSlice at hb
  split at hb
  · rename_i el hu
    split at hb
    · rename_i k hk
      split at hb
      · rename_i hcond
        simp only [Bool.and_eq_true, decide_eq_true_eq] at hcond
        obtain ⟨hgood, hsz⟩ := hcond
        obtain ⟨z, hz, hb⟩ := Option.bind_eq_some_iff.1 hb
        split at hb
        · rename_i hzl
          obtain ⟨c, hc, hb⟩ := Option.map_eq_some_iff.1 hb
          cases hb
          obtain ⟨v, hv, hr, hw⟩ := zeroC_run (ρ := ρ) hz
          have hvl := hr.length
          simp only [Array.length_toList] at hvl
          obtain ⟨hp1, hp2⟩ := parts_rel hE parts.toList
          have hparts : ∀ q ∈ parts.toList.map (fun q => (q.1, E q.2)), q.2 ≠ .bad := fun q hq => good_ne (List.all_eq_true.1 hgood q hq)
          have hcs : (parts.map fun (i, x) => (i, e x)).toList = parts.toList.map fun q => (q.1, e q.2) := by simp
          have hzs := zeros_eq v.cells len (by omega)
          have hzr := repl_rel hr len
          obtain ⟨zs, h1, h2⟩ := afill_run (us := (Array.range (len * v.cells.size)).map (fun i => v.cells[i % v.cells.size]!)) hc (by rw [hzs]; exact hzr) hp1 hp2 hparts
          have hzl2 := h2.length
          have hk1 : v.cells.size = k + 1 := by omega
          have hrun : (Instr.buildSlice t len (parts.map fun (i, x) => (i, e x))).run P w = .ok (.slice (some ⟨w.heap.size, 0, none⟩) len len) (w.alloc (.cells zs el)) := by
            unfold Instr.buildSlice
            simp only [Sem.run_bind, run_underlying hu, Result.andThen_ok, asz_run hk]
            rw [if_neg (by simp only [Nat.succ_eq_add_one]; omega)]
            by_cases h0 : len * (k + 1) = 0
            · have hlen0 : len = 0 := by
                rcases Nat.mul_eq_zero.1 h0 with h | h
                · exact h
                · omega
              subst hlen0
              have h1' : Instr.fill (fun i => some (i * (k + 1), k + 1)) #[] (parts.toList.map fun q => (q.1, e q.2)) = some zs := by
                have h00 : (Array.range (0 * v.cells.size)).map (fun i => v.cells[i % v.cells.size]!) = #[] := by simp
                rw [h00] at h1; exact h1
              simp only [Nat.zero_mul, Nat.succ_eq_add_one, if_true, Sem.run_bind, Sem.run_pure, Result.andThen_ok, Array.range_zero', Array.map_empty]
              rw [hcs, h1']
              simp only [newRow, Sem.run_bind, run_newObj_alloc, Result.andThen_ok, Sem.run_pure]
            · simp only [Nat.succ_eq_add_one] at h0 ⊢
              rw [if_neg h0]
              simp only [Sem.run_bind, hw, Result.andThen_ok, Sem.run_pure]
              have h1' := h1
              rw [show len * v.cells.size = len * (k + 1) from by rw [hk1]] at h1'
              rw [hcs, h1']
              simp only [newRow, Sem.run_bind, run_newObj_alloc, Result.andThen_ok, Sem.run_pure]
          rw [hrun]
          refine ⟨[⟨w.heap.size, 0, zs.size⟩], _, _, .inl rfl, ?_, ⟨_, _, last_loc H _, by omega, ?_, rfl, fun _ => rfl⟩, keeps_alloc H _⟩
          · exact new_rel H zs el (0, 0) (take_self h2) (by simp at hzl2; omega) (.inr rfl)
          · simp [capOf]
        · cases hb
      · cases hb
    · cases hb
  · cases hb
theorem wrap_of {x : Int} (h0 : -9223372036854775808 ≤ x) (h : x ≤ 9223372036854775807) : IntKind.i64.wrap x = x := IntWalk.i64_in _ ⟨h0, h⟩
theorem makeSlice_eff (H : HRel own ρ h w) {t : TypeId} {l c r : AV} {u v : Value} {h' : Hp} (hl : VRel ρ l u) (hc : VRel ρ c v) (hm : amakeSlice P h t l c = some (r, h')) :
    EffOk own ρ w r h' ((Instr.makeSlice t u v).run P w |>.andThen fun v w' => .ok (.value v) w') := by
  unfold amakeSlice at hm
  split at hm
  · rename_i e x y hu
    split at hm
    · rename_i k b hk hby
      split at hm
      · rename_i hcond
        obtain ⟨h1, h2, h3, h4⟩ := hcond
        obtain ⟨z, hz, hm⟩ := Option.bind_eq_some_iff.1 hm
        split at hm
        · rename_i hzl
          cases hm; cases hl; cases hc
          obtain ⟨zv, hzv, hzr, hzw⟩ := zeroC_run (ρ := ρ) hz
          have hvl := hzr.length
          simp only [Array.length_toList] at hvl
          have hk1 : zv.cells.size = k + 1 := by omega
          obtain ⟨i, hi, hib⟩ := Option.map_eq_some_iff.1 hby
          have hzs := zeros_eq zv.cells y.toNat (by omega)
          have hrr := repl_rel hzr y.toNat
          let cs := (Array.range (y.toNat * zv.cells.size)).map (fun i => zv.cells[i % zv.cells.size]!)
          have hrun : (Instr.makeSlice t (.int .i64 x) (.int .i64 y)).run P w = .ok (.slice (some ⟨w.heap.size, 0, none⟩) x.toNat y.toNat) (w.alloc (.cells cs e)) := by
            unfold Instr.makeSlice
            simp only [Sem.run_bind, run_underlying hu, Result.andThen_ok, asInt, asIntOf, Sem.run_pure, run_typeInfo w hi, hib, wrap_of (x := x) (by omega) (by omega), wrap_of (x := y) (by omega) (by omega)]
            have hnot : ¬ (((y < 0 || decide ((b : Int) * y > 2 ^ 48)) || decide (x < 0) || decide (x > y)) = true) := by
              simp only [Bool.or_eq_true, decide_eq_true_eq]
              omega
            rw [if_neg hnot]
            have hask : (askRoom (y.toNat * b)).run P w = .ok () w := by
              unfold askRoom; split <;> rfl
            simp only [Sem.run_bind, hask, Result.andThen_ok, asz_run hk, Nat.succ_eq_add_one]
            by_cases h0 : y.toNat * (k + 1) = 0
            · have hy0 : y.toNat = 0 := by
                rcases Nat.mul_eq_zero.1 h0 with h | h
                · exact h
                · omega
              have hcs : cs = #[] := by simp [cs, hy0]
              rw [if_pos h0, hcs, hy0]
              simp only [Nat.zero_mul, Sem.run_bind, Sem.run_pure, Result.andThen_ok, Array.range_zero', Array.map_empty, newRow, run_newObj_alloc]
            · rw [if_neg h0]
              simp only [Sem.run_bind, hzw, Result.andThen_ok, Sem.run_pure, newRow, run_newObj_alloc]
              rw [← hk1]
          rw [hrun]
          have hcl : cs.size = y.toNat * (k + 1) := by simp [cs, hk1]
          refine ⟨[⟨w.heap.size, 0, cs.size⟩], _, _, .inl rfl, ?_, ⟨_, _, last_loc H _, by omega, ?_, rfl, fun _ => rfl⟩, keeps_alloc H _⟩
          · refine new_rel H cs e (0, 0) (take_self ?_) (by rw [repl_length, hzl, hcl]; exact Nat.le_refl _) (.inr rfl)
            show VRels ρ _ ((Array.range (y.toNat * zv.cells.size)).map (fun i => zv.cells[i % zv.cells.size]!)).toList
            rw [hzs]; exact hrr
          · simp only [capOf]; omega
        · cases hm
      · cases hm
    · cases hm
  · cases hm
theorem bytes_rel (s : ByteArray) : VRels ρ (bytesAV s) (s.data.map fun b => .int .u8 b.toNat).toList := by
  rw [Array.toList_map]
  exact VRels.map _ fun b _ => rfl
theorem toBytes_eff (H : HRel own ρ h w) {src dst : TypeId} {x r : AV} {u : Value} {h' : Hp} (hx : VRel ρ x u) (hm : atoBytes P h src dst x = some (r, h')) :
    EffOk own ρ w r h' ((convert src dst u).run P w |>.andThen fun v w' => .ok (.value v) w') := by
  unfold atoBytes at hm
  split at hm
  · rename_i e a hs hd
    split at hm
    · rename_i he
      cases hm; cases hx
      have hw1 : HRel own ρ h w.drew := H.heap rfl
      have hge : a.size ≤ grownCap w a.size 0 e := by simp only [grownCap, Question.cut]; omega
      have hcs : (bytesRow a (grownCap w a.size 0 e)).size = grownCap w a.size 0 e := by
        simp [bytesRow]; omega
      rw [run_bytes_of_string w src dst e a hs hd he]
      refine ⟨[⟨w.heap.size, 0, (bytesRow a (grownCap w a.size 0 e)).size⟩], _, _, .inl rfl, ?_, ⟨_, _, last_loc H _, by omega, ?_, by simp only [capOf, hcs]; simp [Loc.at], fun _ => rfl⟩, Keeps.trans (b := w.drew) ⟨rfl, rfl, rfl, Nat.le_refl _, fun _ _ => rfl⟩ (keeps_alloc hw1 _)⟩
      · refine new_rel hw1 _ e _ ?_ (by rw [hcs]; simp [bytesAV]; exact hge) (.inl (Nat.le_refl _))
        have hb := bytes_rel (ρ := ρ) a
        have hbl := hb.length
        have : (bytesRow a (grownCap w a.size 0 e)).toList.take (bytesAV a).length = (a.data.map fun b => Value.int .u8 b.toNat).toList := by
          simp only [bytesRow, Array.toList_append]
          rw [List.take_append_of_le_length (by rw [hbl]; exact Nat.le_refl _), List.take_of_length_le (by rw [hbl]; exact Nat.le_refl _)]
        rw [this]; exact hb
      · simp only [capOf, hcs]; simp; exact hge
    · cases hm
  · cases hm
end
end Go.Proofs.Ytnfbgfmdjaodgaa.Eng
