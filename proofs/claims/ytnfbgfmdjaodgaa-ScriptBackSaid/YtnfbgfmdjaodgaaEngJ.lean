/- copy, texts that are gone through, bytes as a text, calls; each operation in one. -/
import Derived.Test.YtnfbgfmdjaodgaaEngI
import Derived.Laws.BytesString
set_option linter.unusedVariables false
set_option linter.unusedSimpArgs false
namespace Go.Proofs.Ytnfbgfmdjaodgaa.Eng
open Go.RowKit

section
variable {P : Program} {own : Nat → Prop} {ρ : List Loc} {h : Hp} {w : World}

theorem acopy_eff (H : HRel own ρ h w) {t u : TypeId} (ty : TypeId) {d x r : AV} {dv xv : Value} {h' : Hp} (hd : VRel ρ d dv) (hx : VRel ρ x xv) (hm : acopy P h t d x = some (r, h')) :
    EffOk own ρ w r h' ((Builtin.copy_ #[t, u] ty #[dv, xv]).run P w |>.andThen fun v w' => .ok (.value v) w') := by
  unfold acopy at hm
  split at hm
  · rename_i e ht
    split at hm
    · rename_i k hk
      obtain ⟨n, hn, hm⟩ := Option.bind_eq_some_iff.1 hm
      have hlen := lenOf_run (P := P) hx hn w
      cases d with
      | sn =>
        simp only at hm
        cases hm; cases hd
        have hf : ∀ v, (Builtin.firstCells (k + 1) 0 xv).run P w = .ok v w → (Builtin.copy_ #[t, u] ty #[.slice none 0 0, xv]).run P w = .ok (.int .i64 0) w := fun v hv => by
          simp [Builtin.copy_, run_underlying ht, hlen, asz_run hk, hv, goInt]
        have hv : ∃ v, (Builtin.firstCells (k + 1) 0 xv).run P w = .ok v w := by
          unfold srcLen at hn
          split at hn
          · cases hx; exact ⟨#[], by simp [Builtin.firstCells]⟩
          · obtain ⟨_, a, _, _, _, rfl, _⟩ := hx; exact ⟨#[], by simp [Builtin.firstCells, loadCells, loadCellsFrom]⟩
          · cases hx; exact ⟨_, by simp only [Builtin.firstCells, Sem.run_pure]; rfl⟩
          · cases hn
        obtain ⟨v, hv⟩ := hv
        rw [hf v hv]
        exact ⟨[], _, w, .inl rfl, by simpa using H, rfl, Keeps.refl _ _⟩
      | sl id off len esz cap =>
        simp only at hm
        split at hm
        · rename_i hesz
          subst hesz
          obtain ⟨new, hnew, hm⟩ := Option.bind_eq_some_iff.1 hm
          obtain ⟨⟨c, wr⟩, hc, hm⟩ := Option.bind_eq_some_iff.1 hm
          split at hm
          · rename_i hcond
            obtain ⟨h1, h2, h3⟩ := hcond
            simp only at h1 h2
            subst h1
            cases hm
            obtain ⟨vs, hvr, hvl, hvw⟩ := src_run (P := P) H hx hnew
            have hnl := hvr.length
            obtain ⟨l, a, hl, he0, hle, rfl, hat⟩ := hd
            have hcell := hcells_some hc
            have hb := H.blk id _ l hcell hl
            obtain ⟨k1, k2⟩ := write_rel H hcell hl hvr (off := off) h2
            have hst := run_storeCells_cells (P := P) l.blk (l.off + off) vs 0 w (fun j hj => by
                have := (hb.2.2 rfl (off + j) (by have := hb.1; omega)).1
                simp only [Loc.at] at this
                rw [Nat.add_zero, Nat.add_assoc]; exact this) (fun j hj => by
                have := (hb.2.2 rfl (off + j) (by have := hb.1; omega)).2
                simp only [Loc.at] at this
                rw [Nat.add_zero, Nat.add_assoc]; exact this) (ones hvr h3)
            rw [Nat.add_zero] at hst
            have hrun : (Builtin.copy_ #[t, u] ty #[.slice (some a) len (capOf l off (k + 1) cap), xv]).run P w = .ok (.int .i64 (min n len : Nat)) (w.setCells l.blk (l.off + off) vs) := by
              have hf := hvw w rfl
              have hf' : (Builtin.firstCells (k + 1) (Nat.min n len) xv).run P w = .ok vs.toArray w := hf
              have hsc : (storeCells a vs).run P w = .ok () (w.setCells l.blk (l.off + off) vs) := by
                by_cases h0 : len = 0
                · subst h0
                  have : vs = [] := List.eq_nil_of_length_eq_zero (by rw [hvl]; simp)
                  subst this
                  simp [storeCells, World.setCells]
                · rw [hat (by omega)]; exact hst
              simp only [Builtin.copy_, Sem.run_bind, run_underlying ht, Result.andThen_ok, hlen, asz_run hk, Nat.succ_eq_add_one, hf', hsc, goInt, Sem.run_pure, List.getElem?_toArray, List.getElem?_cons_zero, List.getElem?_cons_succ]
            rw [hrun]
            exact ⟨[], _, _, .inl rfl, by simpa using k1, rfl, k2⟩
          · cases hm
        · cases hm
      | _ => simp at hm
    · cases hm
  · cases hm
theorem arange_eff (H : HRel own ρ h w) {t : TypeId} {x r : AV} {xv : Value} {h' : Hp} (hx : VRel ρ x xv) (hm : arange P h t x = some (r, h')) :
    EffOk own ρ w r h' ((Instr.range t xv).run P w |>.andThen fun v w' => .ok (.value v) w') := by
  unfold arange at hm
  split at hm
  · rename_i a hu
    cases hm; cases hx
    have hrun : (Instr.range t (.string a)).run P w = .ok (.pointer (some ⟨w.heap.size, 0, none⟩)) (w.alloc (.stringIter a 0)) := by
      simp only [Instr.range, Sem.run_bind, run_underlying hu, Result.andThen_ok, Sem.run_pure, run_newObj_alloc]
    rw [hrun]
    refine ⟨[⟨w.heap.size, 0, 0⟩], _, _, .inl rfl, H.alloc _ _ _ rfl ?_, ⟨_, last_loc H _, rfl⟩, keeps_alloc H _⟩
    exact ⟨rfl, heap_alloc_new w _⟩
  · cases hm
theorem anext_eff (H : HRel own ρ h w) {x r : AV} {xv : Value} {isS : Bool} {ty : TypeId} {h' : Hp} (hx : VRel ρ x xv) (hm : anext h x isS = some (r, h')) :
    EffOk own ρ w r h' ((Instr.next xv isS ty).run P w |>.andThen fun v w' => .ok (.value v) w') := by
  unfold anext at hm
  split at hm
  · rename_i id
    split at hm
    · rename_i a pos hcell
      obtain ⟨l, hl, rfl⟩ := hx
      obtain ⟨h0, hb⟩ : l.off = 0 ∧ w.heap[l.blk]? = some (.stringIter a pos) := H.blk id _ l hcell hl
      have hat : l.at 0 = ⟨l.blk, 0, none⟩ := by simp [Loc.at, h0]
      rw [hat]
      have hg : (getObj l.blk).run P w = .ok (.stringIter a pos) w := by simp [getObj, Sem.run, hb]
      split at hm
      · rename_i hlt
        cases hm
        have hs : (setObj l.blk (.stringIter a (pos + (Utf8.decode a pos).2))).run P w = .ok () { w with heap := w.heap.setIfInBounds l.blk (.stringIter a (pos + (Utf8.decode a pos).2)) } := by
          simp [setObj, Sem.run, hb]
        have hrun : (Instr.next (.pointer (some ⟨l.blk, 0, none⟩)) true ty).run P w = .ok (.tuple #[.bool true, .int .i64 pos, .int .i32 (Utf8.decode a pos).1]) { w with heap := w.heap.setIfInBounds l.blk (.stringIter a (pos + (Utf8.decode a pos).2)) } := by
          simp only [Instr.next, Sem.run_bind, hg, Result.andThen_ok, if_pos hlt, hs, Sem.run_pure, goInt]
        rw [hrun]
        have hlb : l.blk < w.heap.size := H.lt id _ l hcell hl rfl
        refine ⟨[], _, _, .inl rfl, ?_, ⟨_, rfl, ⟨_, _, rfl, rfl, ⟨_, _, rfl, rfl, ⟨_, _, rfl, rfl, rfl⟩⟩⟩⟩, ⟨rfl, rfl, rfl, by simp, fun b hb' => ?_⟩⟩
        · rw [List.append_nil]
          refine H.upd hcell hl rfl (by simp) (fun b hb' => ?_) ⟨h0, ?_⟩
          · simp only [Array.getElem?_setIfInBounds]; rw [if_neg (Ne.symm hb')]
          · simp [hlb]
        · simp only [Array.getElem?_setIfInBounds]
          rw [if_neg (fun (e : l.blk = b) => hb' (e ▸ H.ours id _ l hcell hl rfl))]
      · rename_i hlt
        cases hm
        have hrun : (Instr.next (.pointer (some ⟨l.blk, 0, none⟩)) true ty).run P w = .ok (.tuple #[.bool false]) w := by
          simp only [Instr.next, Sem.run_bind, hg, Result.andThen_ok, if_neg hlt, Sem.run_pure]
        rw [hrun]
        exact ⟨[], _, w, .inl rfl, by simpa using H, ⟨_, rfl, ⟨_, _, rfl, rfl, rfl⟩⟩, Keeps.refl _ _⟩
    · cases hm
  · cases hm
theorem numsOf_run : ∀ {c : List AV} {vs : List Value} {ns : List Int}, numsOf c = some ns → VRels ρ c vs → vs = ns.map (Value.int .u8)
  | [], _, _, h, hr => by cases h; cases hr; rfl
  | x :: xs, _, ns, h, ⟨y, ys, h1, h2, h3⟩ => by
    subst h1
    unfold numsOf at h
    split at h
    · rename_i e; cases e
    · rename_i e
      cases e
      obtain ⟨l, hl, rfl⟩ := Option.map_eq_some_iff.1 h
      cases h2
      rw [List.map_cons, ← numsOf_run hl h3]
    · cases h
theorem push_all : ∀ (ns : List Int) (s : ByteArray), ns.foldl (fun (r : ByteArray) n => r.push (UInt8.ofNat n.toNat)) s = ⟨s.data ++ (ns.map fun n => UInt8.ofNat n.toNat).toArray⟩
  | [], s => by simp
  | n :: ns, s => by
    rw [List.foldl_cons, push_all ns]
    congr 1
    apply Array.ext'
    simp [ByteArray.push]
theorem atext_run (H : HRel own ρ h w) {src dst : TypeId} {x r : AV} {xv : Value} (hx : VRel ρ x xv) (hm : atext P h src dst x = some r) :
    ∃ z, VRel ρ r z ∧ (convert src dst xv).run P w = .ok z w := by
  unfold atext at hm
  split at hm
  · rename_i e hs hd
    split at hm
    · rename_i he
      split at hm
      · cases hm; cases hx
        exact ⟨_, rfl, by simp [convert, run_underlying hs, run_underlying hd, run_underlying he, Conv.bytesToString]⟩
      · rename_i id off len cap
        obtain ⟨l, a, hl, _, hle, rfl, hat⟩ := hx
        obtain ⟨⟨c, wr⟩, hc, hm⟩ := Option.bind_eq_some_iff.1 hm
        split at hm
        · rename_i hfit
          obtain ⟨ns, hns, rfl⟩ := Option.map_eq_some_iff.1 hm
          obtain ⟨l', hl', hb⟩ := H.loc (hcells_some hc)
          obtain rfl : l = l' := Option.some.inj (hl.symm.trans hl')
          obtain ⟨vs, k1, k2, k3⟩ := cells_at hb len off hfit
          have hv := numsOf_run hns k2
          have hload : (loadCells a len).run P w = .ok (ns.map (Value.int .u8)).toArray w := by
            by_cases h0 : len = 0
            · subst h0
              have hnil : vs = [] := List.eq_nil_of_length_eq_zero k1
              rw [← hv, hnil]
              simp [loadCells, loadCellsFrom]
            · rw [hat (by omega), ← k1, ← hv]
              exact loadCells_at k3
          refine ⟨_, rfl, ?_⟩
          have := run_bytesToString (P := P) w a len (capOf l off 1 cap) ns hload
          rw [push_all] at this
          simp only [convert, Sem.run_bind, run_underlying hs, run_underlying hd, run_underlying he, Result.andThen_ok]
          rw [this]
          simp
        · cases hm
      · cases hm
    · cases hm
  · cases hm
theorem aread_run (H : HRel own ρ h w) {E : Operand → AV} {e : Operand → Value} (hE : ∀ x, VRel ρ (E x) (e x)) {o : Oper} {r : AV} (hr : aread P E h o.op = some r) :
    ∃ z, VRel ρ r z ∧ (execOp e o).run P w = .ok (.value z) w := by
  obtain ⟨dst, op, ty, pos, after, guard⟩ := o
  simp only at hr
  unfold aread at hr
  split at hr
  · rename_i t a
    obtain ⟨z, hz, hw⟩ := aload_run H hr (hE a)
    exact ⟨z, hz, by simp only [execOp, Sem.run_bind, hw, Result.andThen_ok, Sem.run_pure]⟩
  · rename_i src dst x
    obtain ⟨z, hz, hw⟩ := atext_run H (hE x) hr
    exact ⟨z, hz, by simp only [execOp, Sem.run_bind, hw, Result.andThen_ok, Sem.run_pure]⟩
  · cases hr

def OpDone (P : Program) (own : Nat → Prop) (ρ : List Loc) (w : World) (r : AV) (h' : Hp) (o : Oper) (a : Act) : Prop :=
  ∀ (K : Act → World → Prop) (Q : Exit → Act → World → Prop), (∀ σ z w', HRel own (ρ ++ σ) h' w' → VRel (ρ ++ σ) r z → Keeps own w w' → K (a.put o.dst z) w') → o.wp P a w K Q
theorem OpDone.of_eff {r : AV} {h' : Hp} {o : Oper} {a : Act} (he : EffOk own ρ w r h' ((execOp a.eval o).run P w)) : OpDone P own ρ w r h' o a := by
  obtain ⟨σ, z, w', h1, h2, h3, h4⟩ := he
  intro K Q hK
  unfold Oper.wp
  rcases h1 with h1 | ⟨h1, rfl⟩
  · rw [h1]; exact hK σ z w' h2 h3 h4
  · rw [h1]; exact hK σ undef w' h2 h3 h4
theorem acall_run {Γ : Env} (hΓ : Sound P Γ) (H : HRel own ρ h w) {a : Act} {t : List AV} (ht : VRels ρ t a.tmps.toList) {dst : Option Tmp} {c : Call} {ty : TypeId} {pos : String} {after : Array Edge} {guard : Option (Nat × Bool)} {r : AV} {h' : Hp}
    (hr : acall P Γ (ev t) h c = some (r, h')) : OpDone P own ρ w r h' ⟨dst, .call c, ty, pos, after, guard⟩ a := by
  have hE := fun x => ev_rel ht x
  obtain ⟨callee, args, tys⟩ := c
  unfold acall at hr
  split at hr
  · rename_i f hc
    simp only at hc
    subst hc
    split at hr
    · rename_i g caps hf
      have hfr := hE f
      rw [hf] at hfr
      obtain ⟨ys, hfv, hcr⟩ := hfr
      have hargs : VRels ρ (args.toList.map (ev t) ++ caps) (args.toList.map a.eval ++ ys) := (VRels.map _ fun x _ => hE x).append hcr
      rcases hΓ _ _ _ _ _ hr with ⟨⟨fn, hfn, hbody, hname⟩, hcalls⟩ | hext
      rotate_left
      · obtain ⟨σ, z, w', e1, e2, e3, e4⟩ := hext own ρ w _ H hargs
        refine OpDone.of_eff ⟨σ, z, w', .inl ?_, e2, e3, e4⟩
        have e1' : (callFunc g (#[] ++ args.map a.eval ++ ys.toArray)).run P w = .ok (.value z) w' := by
          rw [← e1]; congr 2; apply Array.ext'; simp
        simp only [execOp, resolve, hfv, Deferred.ofValue, Sem.run_bind, Sem.run_pure, Result.andThen_ok, invoke]
        exact e1'
      have hC := hcalls own ρ w _ H hargs
      intro K Q hK
      unfold Oper.wp
      have hrun : (execOp a.eval ⟨dst, .call ⟨.value f, args, tys⟩, ty, pos, after, guard⟩).run P w = .ok (.enter g (args.toList.map a.eval ++ ys).toArray) w := by
        simp only [execOp, resolve, hfv, Deferred.ofValue, Sem.run_bind, Sem.run_pure, Result.andThen_ok, invoke, callFunc, run_program, hfn, hname, hbody, Bool.false_eq_true, if_false]
        congr 2
        apply Array.ext'
        simp
      rw [hrun, Oper.upon_enter]
      refine hC.mono fun e w' he => ?_
      obtain ⟨σ, z, rfl, k1, k2, k3⟩ := he
      exact hK σ z w' k1 k2 k3
    · cases hr
  · rename_i hc
    simp only at hc
    subst hc
    split at hr
    · rename_i s x t' u ha hu
      simp only at ha hu
      obtain rfl := arr_of ha
      obtain rfl := arr_of hu
      split at hr
      · rename_i e' hu'
        have := aappend_eff H ty hu' (.inr ⟨_, rfl⟩) (hE s) (hE x) hr
        refine OpDone.of_eff ?_
        simpa [execOp, resolve, invoke, builtin] using this
      · rename_i hu'
        have := aappend_eff H ty hu' (.inl rfl) (hE s) (hE x) hr
        refine OpDone.of_eff ?_
        simpa [execOp, resolve, invoke, builtin] using this
      · cases hr
    · cases hr
  · rename_i hc
    simp only at hc
    subst hc
    split at hr
    · rename_i s x t' u ha hu
      simp only at ha hu
      obtain rfl := arr_of ha
      obtain rfl := arr_of hu
      have := acopy_eff (u := u) H ty (hE s) (hE x) hr
      refine OpDone.of_eff ?_
      simpa [execOp, resolve, invoke, builtin] using this
    · cases hr
  · cases hr
theorem freeze_cell (w : World) (b n : Nat) (x : Addr) : (w.freeze ⟨b, n, none⟩ 1).cell? x = w.cell? x := by
  unfold World.freeze
  rw [if_neg (by decide)]
  simp only [World.cell?, Array.getElem?_modify]
  by_cases hb : b = x.block
  · subst hb
    simp only [if_true]
    cases w.heap[x.block]? with
    | none => rfl
    | some o => cases o <;> rfl
  · simp only [if_neg hb]
theorem amark_run (H : HRel own ρ h w) {src dst : TypeId} {x r : AV} {u : Value} {h' : Hp} (hx : VRel ρ x u) (hm : amark P h src dst x = some (r, h')) :
    ∃ w', (convert src dst u).run P w = .ok u w' ∧ HRel own ρ h' w' ∧ VRel ρ r u ∧ Keeps own w w' := by
  unfold amark at hm
  split at hm
  · rename_i e0 e id off n esz cap hs hd
    split at hm
    · rename_i hsd
      subst hsd
      have hee : e0 = e := by simpa using hs.symm.trans hd
      subst hee
      split at hm
      · rename_i he
        obtain ⟨⟨c, wr⟩, hc, hm⟩ := Option.bind_eq_some_iff.1 hm
        split at hm
        · rename_i hq
          obtain ⟨hwr, hpos⟩ := hq
          simp only at hwr hpos
          subst hwr
          cases hm
          have hx' := hx
          obtain ⟨l, a, hl, h0, hle, rfl, hat⟩ := hx
          have ha := hat (by omega)
          subst ha
          have hrow := hcells_some hc
          have hb := H.blk id _ l hrow hl
          have hcell := (hb.2.2 rfl 0 (by have := hb.1; omega)).1
          have hown := H.ours id _ l hrow hl rfl
          obtain ⟨C, el, fr, hheap⟩ : ∃ C el fr, w.heap[l.blk]? = some (.cells C el fr) := by
            unfold World.cell? at hcell
            simp only [Loc.at] at hcell
            split at hcell
            · rename_i C el fr hh; exact ⟨C, el, fr, hh⟩
            · simp at hcell
          have hsh : w.shape? l.blk = some (el, C.size) := by simp [World.shape?, hheap]
          have hne : ∀ b, b ≠ l.blk → (w.freeze ⟨l.blk, C.size, none⟩ 1).heap[b]? = w.heap[b]? := fun b hb => by
            unfold World.freeze
            rw [if_neg (by decide)]
            simp only [Array.getElem?_modify, if_neg (Ne.symm hb)]
          have hsize : (w.freeze ⟨l.blk, C.size, none⟩ 1).heap.size = w.heap.size := by
            unfold World.freeze
            rw [if_neg (by decide)]
            simp
          refine ⟨w.freeze ⟨l.blk, C.size, none⟩ 1, ?_, ?_, hx', ?_⟩
          · simp [convert, run_underlying hs, run_underlying he, markStringish, hsh, Loc.at]
          · refine H.upd hrow hl rfl hsize hne ⟨hb.1, fun j a hj => ?_, fun hf => by cases hf⟩
            obtain ⟨v, hv, hr⟩ := hb.2.1 j a hj
            exact ⟨v, by rw [freeze_cell]; exact hv, hr⟩
          · refine ⟨?_, ?_, ?_, by rw [hsize]; exact Nat.le_refl _, fun b hb => hne b fun e => hb (e ▸ hown)⟩ <;>
            · unfold World.freeze
              rw [if_neg (by decide)]
        · cases hm
      · cases hm
    · cases hm
  · cases hm
theorem aeff_run {Γ : Env} (hΓ : Sound P Γ) (H : HRel own ρ h w) {a : Act} {t : List AV} (ht : VRels ρ t a.tmps.toList) {o : Oper} {r : AV} {h' : Hp} (hr : aeff P Γ (ev t) h o.op = some (r, h')) :
    OpDone P own ρ w r h' o a := by
  have hE := fun x => ev_rel ht x
  obtain ⟨dst, op, ty, pos, after, guard⟩ := o
  simp only at hr
  unfold aeff at hr
  split at hr
  · rename_i t'
    obtain ⟨c, hc, hq⟩ := Option.map_eq_some_iff.1 hr
    cases hq
    refine OpDone.of_eff ?_
    have := alloc_eff H hc
    simpa only [execOp, Sem.run_bind, Sem.run_pure] using this
  · rename_i t' x
    split at hr
    · rename_i hg
      cases hr
      refine OpDone.of_eff ?_
      have := box_eff (P := P) (t := t') H hg (hE x)
      simpa only [execOp, Sem.run_bind, Sem.run_pure] using this
    · cases hr
  · rename_i t' len parts
    refine OpDone.of_eff ?_
    have := buildSlice_eff H hE hr
    simpa only [execOp, Sem.run_bind, Sem.run_pure] using this
  · rename_i t' l c
    refine OpDone.of_eff ?_
    have := makeSlice_eff H (hE l) (hE c) hr
    simpa only [execOp, Sem.run_bind, Sem.run_pure] using this
  · rename_i t' x y
    obtain ⟨h1, hh1, hq⟩ := Option.map_eq_some_iff.1 hr
    cases hq
    obtain ⟨w', k1, k2, k3⟩ := astore_run H hh1 (hE x) (hE y)
    refine OpDone.of_eff ⟨[], undef, w', .inr ⟨?_, rfl⟩, by simpa using k2, ⟨[], rfl, rfl⟩, k3⟩
    simp only [execOp, Sem.run_bind, k1, Result.andThen_ok, Sem.run_pure]
  · rename_i src dst x
    split at hr
    · rename_i q hq
      rw [hr] at hq
      refine OpDone.of_eff ?_
      have := toBytes_eff H (hE x) hq
      simpa only [execOp, Sem.run_bind, Sem.run_pure] using this
    · obtain ⟨w', k1, k2, k3, k4⟩ := amark_run H (hE x) hr
      refine OpDone.of_eff ⟨[], _, w', .inl ?_, by simpa using k2, by simpa using k3, k4⟩
      simp only [execOp, Sem.run_bind, k1, Result.andThen_ok, Sem.run_pure]
  · rename_i c
    exact acall_run hΓ H ht hr
  · rename_i t' x
    refine OpDone.of_eff ?_
    have := arange_eff H (hE x) hr
    simpa only [execOp, Sem.run_bind, Sem.run_pure] using this
  · rename_i it s
    refine OpDone.of_eff ?_
    have := anext_eff (P := P) (ty := ty) H (hE it) hr
    simpa only [execOp, Sem.run_bind, Sem.run_pure] using this
  · cases hr
end

mutual
def AV.under (n : Nat) : AV → Bool
  | .p id _ => decide (id < n)
  | .sl id _ _ _ _ => decide (id < n)
  | .m id => decide (id < n)
  | .ic _ v => AV.under n v
  | .fn _ c => AV.unders n c
  | .ag x => AV.unders n x
  | .tu x => AV.unders n x
  | _ => true
def AV.unders (n : Nat) : List AV → Bool
  | [] => true
  | x :: xs => AV.under n x && AV.unders n xs
end
mutual
def reA (f : Nat → Option Nat) : AV → AV
  | .p id off => match f id with
    | some k => .p k off
    | none => .bad
  | .sl id off len esz cap => match f id with
    | some k => .sl k off len esz cap
    | none => .bad
  | .m id => match f id with
    | some k => .m k
    | none => .bad
  | .ic t v => .ic t (reA f v)
  | .fn g c => .fn g (reAs f c)
  | .ag x => .ag (reAs f x)
  | .tu x => .tu (reAs f x)
  | v => v
def reAs (f : Nat → Option Nat) : List AV → List AV
  | [] => []
  | x :: xs => reA f x :: reAs f xs
end
mutual
theorem VRel.reA {f : Nat → Option Nat} {ρ ρ' : List Loc} (hf : ∀ id k l, f id = some k → ρ[id]? = some l → ρ'[k]? = some l) : ∀ {a : AV} {v : Value}, VRel ρ a v → VRel ρ' (Eng.reA f a) v
  | .bad, _, h => trivial
  | .bo _, _, h => h
  | .i _ _, _, h => h
  | .s _, _, h => h
  | .pn, _, h => h
  | .p id off, v, h => by
    obtain ⟨l, h1, h2⟩ := h
    simp only [Eng.reA]
    split
    · rename_i k hk; exact ⟨l, hf _ _ _ hk h1, h2⟩
    · trivial
  | .sn, _, h => h
  | .sl id off len esz cap, v, h => by
    obtain ⟨l, a, h1, h2⟩ := h
    simp only [Eng.reA]
    split
    · rename_i k hk; exact ⟨l, a, hf _ _ _ hk h1, h2⟩
    · trivial
  | .mn, _, h => h
  | .m id, v, h => by
    obtain ⟨l, h1, h2⟩ := h
    simp only [Eng.reA]
    split
    · rename_i k hk; exact ⟨l, hf _ _ _ hk h1, h2⟩
    · trivial
  | .nf, _, h => h
  | .ni, _, h => h
  | .ic _ x, _, ⟨y, h1, h2⟩ => ⟨y, h1, VRel.reA hf (a := x) h2⟩
  | .fn _ caps, _, ⟨ys, h1, h2⟩ => ⟨ys, h1, VRels.reAs hf (as := caps) h2⟩
  | .ag xs, _, ⟨ys, h1, h2⟩ => ⟨ys, h1, VRels.reAs hf (as := xs) h2⟩
  | .tu xs, _, ⟨ys, h1, h2⟩ => ⟨ys, h1, VRels.reAs hf (as := xs) h2⟩
theorem VRels.reAs {f : Nat → Option Nat} {ρ ρ' : List Loc} (hf : ∀ id k l, f id = some k → ρ[id]? = some l → ρ'[k]? = some l) : ∀ {as : List AV} {vs : List Value}, VRels ρ as vs → VRels ρ' (Eng.reAs f as) vs
  | [], _, h => h
  | x :: xs, _, ⟨y, ys, h1, h2, h3⟩ => ⟨y, ys, h1, VRel.reA hf (a := x) h2, VRels.reAs hf (as := xs) h3⟩
end
theorem reAs_length (f : Nat → Option Nat) : ∀ (c : List AV), (reAs f c).length = c.length
  | [] => rfl
  | x :: xs => by simp [reAs, reAs_length f xs]
theorem reAs_get (f : Nat → Option Nat) : ∀ (c : List AV) (j : Nat), (reAs f c)[j]? = c[j]?.map (reA f)
  | [], j => by simp [reAs]
  | x :: xs, 0 => by simp [reAs]
  | x :: xs, j + 1 => by simp [reAs, reAs_get f xs j]
theorem reAs_append (f : Nat → Option Nat) : ∀ (c d : List AV), reAs f (c ++ d) = reAs f c ++ reAs f d
  | [], d => rfl
  | x :: xs, d => by simp [reAs, reAs_append f xs d]
def reB (f : Nat → Option Nat) : Blk → Blk
  | .cells c wr => .cells (reAs f c) wr
  | .map es => .map (es.map fun q => (reA f q.1, reA f q.2))
  | B => B
section
variable {own : Nat → Prop} {ρ : List Loc} {h : Hp} {w : World}
theorem reB_wr (f : Nat → Option Nat) (B : Blk) : (reB f B).wrB = B.wrB := by cases B <;> rfl
theorem reB_solid (f : Nat → Option Nat) (B : Blk) : (reB f B).solid = B.solid := by
  cases B with
  | cells c wr => cases c <;> simp [reB, Blk.solid, reAs]
  | _ => rfl
theorem BRel.reB {f : Nat → Option Nat} {ρ' : List Loc} {l : Loc} {B : Blk} (hf : ∀ id k l, f id = some k → ρ[id]? = some l → ρ'[k]? = some l) (hb : BRel ρ w l B) : BRel ρ' w l (Eng.reB f B) := by
  cases B with
  | cells c wr =>
    refine ⟨by rw [reAs_length]; exact hb.1, fun j a hj => ?_, hb.2.2⟩
    rw [reAs_get, Option.map_eq_some_iff] at hj
    obtain ⟨a', h3, rfl⟩ := hj
    obtain ⟨v, hv, hr⟩ := hb.2.1 j a' h3
    exact ⟨v, hv, hr.reA hf⟩
  | map es =>
    obtain ⟨e, c, h1, h2, h3⟩ := hb
    have hm : ∀ (l : List (AV × AV)) (g : AV × AV → AV) (vs : List Value), VRels ρ (l.map g) vs → VRels ρ' (l.map fun q => Eng.reA f (g q)) vs := by
      intro l g
      induction l with
      | nil => exact fun vs h => h
      | cons x xs ih => rintro vs ⟨y, ys, rfl, h1, h2⟩; exact ⟨y, ys, rfl, h1.reA hf, ih _ h2⟩
    refine ⟨e, c, h1, ?_, ?_⟩
    · rw [List.map_map]; exact hm es (·.1) _ h2
    · rw [List.map_map]; exact hm es (·.2) _ h3
  | iter s pos => exact hb
  | dead => trivial
end
def Blk.under (n : Nat) : Blk → Bool
  | .cells c _ => AV.unders n c
  | .dead => true
  | _ => false
mutual
theorem reA_under {n : Nat} {f : Nat → Option Nat} (hf : ∀ id, id < n → f id = some id) : ∀ {a : AV}, a.under n = true → reA f a = a
  | .bad, _ => rfl
  | .bo _, _ => rfl
  | .i _ _, _ => rfl
  | .s _, _ => rfl
  | .pn, _ => rfl
  | .p id _, h => by rw [reA, hf id (by simpa [AV.under] using h)]
  | .sn, _ => rfl
  | .sl id _ _ _ _, h => by rw [reA, hf id (by simpa [AV.under] using h)]
  | .mn, _ => rfl
  | .m id, h => by rw [reA, hf id (by simpa [AV.under] using h)]
  | .nf, _ => rfl
  | .ni, _ => rfl
  | .ic t x, h => by rw [reA, reA_under hf (a := x) (by simpa [AV.under] using h)]
  | .fn g c, h => by rw [reA, reAs_under hf (as := c) (by simpa [AV.under] using h)]
  | .ag x, h => by rw [reA, reAs_under hf (as := x) (by simpa [AV.under] using h)]
  | .tu x, h => by rw [reA, reAs_under hf (as := x) (by simpa [AV.under] using h)]
theorem reAs_under {n : Nat} {f : Nat → Option Nat} (hf : ∀ id, id < n → f id = some id) : ∀ {as : List AV}, AV.unders n as = true → reAs f as = as
  | [], _ => rfl
  | x :: xs, h => by
    have h' : AV.under n x = true ∧ AV.unders n xs = true := by simpa [AV.unders] using h
    rw [reAs, reA_under hf (a := x) h'.1, reAs_under hf (as := xs) h'.2]
end
theorem reB_under {n : Nat} {f : Nat → Option Nat} (hf : ∀ id, id < n → f id = some id) {B : Blk} (h : B.under n = true) : reB f B = B := by
  cases B with
  | cells c wr => rw [reB, reAs_under hf h]
  | map es => cases h
  | iter s p => cases h
  | dead => rfl
def swapN (n id : Nat) : Option Nat := if id = n then some (n + 1) else if id = n + 1 then some n else some id
theorem swapN_lt {n id : Nat} (h : id < n) : swapN n id = some id := by
  unfold swapN
  rw [if_neg (by omega), if_neg (by omega)]
theorem swapN_get {α : Type} {l : List α} {n : Nat} (hl : l.length = n) (a b : α) {id k : Nat} {x : α} (hk : swapN n id = some k) (hx : (l ++ [a, b])[id]? = some x) : (l ++ [b, a])[k]? = some x := by
  subst hl
  unfold swapN at hk
  split at hk
  · rename_i e
    cases hk; subst e
    rw [List.getElem?_append_right (Nat.le_refl _), Nat.sub_self] at hx
    rw [List.getElem?_append_right (by omega), show l.length + 1 - l.length = 1 by omega]
    exact hx
  · split at hk
    · rename_i e
      cases hk; subst e
      rw [List.getElem?_append_right (by omega), show l.length + 1 - l.length = 1 by omega] at hx
      rw [List.getElem?_append_right (Nat.le_refl _), Nat.sub_self]
      exact hx
    · cases hk
      rename_i e1 e2
      have hlt : id < l.length := by
        rcases Nat.lt_or_ge id l.length with h | h
        · exact h
        · rw [List.getElem?_eq_none (by simp; omega)] at hx; cases hx
      rw [List.getElem?_append_left hlt] at hx ⊢
      exact hx
theorem swapN_some (n id : Nat) : ∃ k, swapN n id = some k := by
  unfold swapN
  split
  · exact ⟨_, rfl⟩
  · split <;> exact ⟨_, rfl⟩
theorem swapN_back {n id k : Nat} (h : swapN n id = some k) : swapN n k = some id := by
  unfold swapN at h ⊢
  split at h
  · cases h; rw [if_neg (by omega), if_pos rfl]; simp_all
  · split at h
    · cases h; rw [if_pos rfl]; simp_all
    · cases h; rw [if_neg (by assumption), if_neg (by assumption)]
theorem HRel.swap {own : Nat → Prop} {ρ : List Loc} {h : Hp} {w : World} {l1 l2 : Loc} {Z1 Z2 : Blk} (H : HRel own (ρ ++ [l2, l1]) (h ++ [Z2, Z1]) w) (hu : h.all (Blk.under h.length) = true) (h1 : Z1.under h.length = true) (h2 : Z2.under h.length = true) :
    HRel own (ρ ++ [l1, l2]) (h ++ [Z1, Z2]) w := by
  have hl : ρ.length = h.length := by have := H.len; simpa using this
  have back : ∀ {id : Nat} {B : Blk} {l : Loc}, (h ++ [Z1, Z2])[id]? = some B → (ρ ++ [l1, l2])[id]? = some l → ∃ k, swapN h.length id = some k ∧ (h ++ [Z2, Z1])[k]? = some B ∧ (ρ ++ [l2, l1])[k]? = some l ∧ B.under h.length = true := by
    intro id B l e1 e2
    obtain ⟨k, hk⟩ := swapN_some h.length id
    refine ⟨k, hk, swapN_get rfl _ _ hk e1, swapN_get hl _ _ hk e2, ?_⟩
    have hm := List.mem_of_getElem? e1
    simp only [List.mem_append, List.mem_cons, List.not_mem_nil, or_false] at hm
    rcases hm with hm | rfl | rfl
    · exact List.all_eq_true.1 hu _ hm
    · exact h1
    · exact h2
  refine ⟨H.glob, by simp [hl], H.fresh, fun id B l e1 e2 => ?_, fun id B l e1 e2 e3 => ?_, fun id B l e1 e2 e3 => ?_, fun i j Bi Bj li lj e1 e2 e3 e4 e5 e6 e7 => ?_⟩
  · obtain ⟨k, hk, g1, g2, g3⟩ := back e1 e2
    have := (H.blk k B l g1 g2).reB (f := swapN h.length) (ρ' := ρ ++ [l1, l2]) (fun a b c d e => swapN_get hl _ _ d e)
    rw [reB_under (fun _ => swapN_lt) g3] at this
    exact this
  · obtain ⟨k, hk, g1, g2, g3⟩ := back e1 e2
    exact H.ours k B l g1 g2 e3
  · obtain ⟨k, hk, g1, g2, g3⟩ := back e1 e2
    exact H.lt k B l g1 g2 e3
  · obtain ⟨a, ha, g1, g2, _⟩ := back e1 e3
    obtain ⟨b, hb, g4, g5, _⟩ := back e2 e4
    refine H.sep a b Bi Bj li lj g1 g4 g2 g5 (fun e => e5 ?_) e6 e7
    subst e
    have := swapN_back ha
    rw [swapN_back hb] at this
    cases this; rfl
theorem reAs_set (f : Nat → Option Nat) (t : List AV) (d : Nat) (v : AV) : reAs f (t.set d v) = (reAs f t).set d (reA f v) := by
  apply List.ext_getElem?
  intro i
  rw [reAs_get]
  by_cases e : d = i
  · subst e
    rcases Nat.lt_or_ge d t.length with h | h
    · rw [List.getElem?_set_self h, List.getElem?_set_self (by rw [reAs_length]; exact h)]; rfl
    · rw [List.getElem?_eq_none (by simpa using h), List.getElem?_eq_none (by simpa [reAs_length] using h)]; rfl
  · rw [List.getElem?_set_ne e, List.getElem?_set_ne e, reAs_get]
end Go.Proofs.Ytnfbgfmdjaodgaa.Eng
