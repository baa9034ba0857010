/- copy, texts that are gone through, bytes as a text, calls; each operation in one. -/
import Derived.Test.YtohaalilplngnaaDoorEngI
import Derived.Laws.BytesString
set_option linter.unusedVariables false
set_option linter.unusedSimpArgs false
namespace Go.Proofs.YtohaalilplngnaaDoor.Eng
open Go.RowKit

section
variable {P : Program} {own : Nat → Prop} {ρ : List Loc} {h : Hp} {w : World}

theorem acopy_eff (H : HRel own ρ h w) {t u : TypeId} (ty : TypeId) {d x r : AV} {dv xv : Value} {h' : Hp} (hd : VRel ρ d dv) (hx : VRel ρ x xv) (hm : acopy P h t d x = some (r, h')) :
    EffOk own ρ w r h' ((Builtin.copy_ #[t, u] ty #[dv, xv]).run P w |>.andThen fun v w' => .ok (.value v) w') := by
  unfold acopy at hm
  split at hm
  · rename_i e ht
    split at hm
    · rename_i k hk
      obtain ⟨n, hn, hm⟩ := Option.bind_eq_some_iff.1 hm
      have hlen := lenOf_run (P := P) hx hn w
      cases d with
      | sn =>
        simp only at hm
        cases hm; cases hd
        have hf : ∀ v, (Builtin.firstCells (k + 1) 0 xv).run P w = .ok v w → (Builtin.copy_ #[t, u] ty #[.slice none 0 0, xv]).run P w = .ok (.int .i64 0) w := fun v hv => by
          simp [Builtin.copy_, run_underlying ht, hlen, asz_run hk, hv, goInt]
        have hv : ∃ v, (Builtin.firstCells (k + 1) 0 xv).run P w = .ok v w := by
          unfold srcLen at hn
          split at hn
          · cases hx; exact ⟨#[], by simp [Builtin.firstCells]⟩
          · obtain ⟨_, a, _, _, _, rfl, _⟩ := hx; exact ⟨#[], by simp [Builtin.firstCells, loadCells, loadCellsFrom]⟩
          · cases hx; exact ⟨_, by simp only [Builtin.firstCells, Sem.run_pure]; rfl⟩
          · cases hn
        obtain ⟨v, hv⟩ := hv
        rw [hf v hv]
        exact ⟨[], _, w, .inl rfl, by simpa using H, rfl, Keeps.refl _ _⟩
      | sl id off len esz cap =>
        simp only at hm
        split at hm
        · rename_i hesz
          subst hesz
          obtain ⟨new, hnew, hm⟩ := Option.bind_eq_some_iff.1 hm
          obtain ⟨⟨c, wr⟩, hc, hm⟩ := Option.bind_eq_some_iff.1 hm
          split at hm
          · rename_i hcond
            obtain ⟨h1, h2, h3⟩ := hcond
            simp only at h1 h2
            subst h1
            cases hm
            obtain ⟨vs, hvr, hvl, hvw⟩ := src_run (P := P) H hx hnew
            have hnl := hvr.length
            obtain ⟨l, a, hl, he0, hle, rfl, hat⟩ := hd
            have hcell := hcells_some hc
            have hb := H.blk id _ l hcell hl
            obtain ⟨k1, k2⟩ := write_rel H hcell hl hvr (off := off) h2
            have hst := run_storeCells_cells (P := P) l.blk (l.off + off) vs 0 w (fun j hj => by
                have := (hb.2.2 rfl (off + j) (by have := hb.1; omega)).1
                simp only [Loc.at] at this
                rw [Nat.add_zero, Nat.add_assoc]; exact this) (fun j hj => by
                have := (hb.2.2 rfl (off + j) (by have := hb.1; omega)).2
                simp only [Loc.at] at this
                rw [Nat.add_zero, Nat.add_assoc]; exact this) (ones hvr h3)
            rw [Nat.add_zero] at hst
            have hrun : (Builtin.copy_ #[t, u] ty #[.slice (some a) len (capOf l off (k + 1) cap), xv]).run P w = .ok (.int .i64 (min n len : Nat)) (w.setCells l.blk (l.off + off) vs) := by
              have hf := hvw w rfl
              have hf' : (Builtin.firstCells (k + 1) (Nat.min n len) xv).run P w = .ok vs.toArray w := hf
              have hsc : (storeCells a vs).run P w = .ok () (w.setCells l.blk (l.off + off) vs) := by
                by_cases h0 : len = 0
                · subst h0
                  have : vs = [] := List.eq_nil_of_length_eq_zero (by rw [hvl]; simp)
                  subst this
                  simp [storeCells, World.setCells]
                · rw [hat (by omega)]; exact hst
              simp only [Builtin.copy_, Sem.run_bind, run_underlying ht, Result.andThen_ok, hlen, asz_run hk, Nat.succ_eq_add_one, hf', hsc, goInt, Sem.run_pure, List.getElem?_toArray, List.getElem?_cons_zero, List.getElem?_cons_succ]
            rw [hrun]
            exact ⟨[], _, _, .inl rfl, by simpa using k1, rfl, k2⟩
          · cases hm
        · cases hm
      | _ => simp at hm
    · cases hm
  · cases hm
theorem arange_eff (H : HRel own ρ h w) {t : TypeId} {x r : AV} {xv : Value} {h' : Hp} (hx : VRel ρ x xv) (hm : arange P h t x = some (r, h')) :
    EffOk own ρ w r h' ((Instr.range t xv).run P w |>.andThen fun v w' => .ok (.value v) w') := by
  unfold arange at hm
  split at hm
  · rename_i a hu
    cases hm; cases hx
    have hrun : (Instr.range t (.string a)).run P w = .ok (.pointer (some ⟨w.heap.size, 0, none⟩)) (w.alloc (.stringIter a 0)) := by
      simp only [Instr.range, Sem.run_bind, run_underlying hu, Result.andThen_ok, Sem.run_pure, run_newObj_alloc]
    rw [hrun]
    refine ⟨[⟨w.heap.size, 0, 0⟩], _, _, .inl rfl, H.alloc _ _ _ rfl ?_, ⟨_, last_loc H _, rfl⟩, keeps_alloc H _⟩
    exact ⟨rfl, heap_alloc_new w _⟩
  · cases hm
theorem anext_eff (H : HRel own ρ h w) {x r : AV} {xv : Value} {isS : Bool} {ty : TypeId} {h' : Hp} (hx : VRel ρ x xv) (hm : anext h x isS = some (r, h')) :
    EffOk own ρ w r h' ((Instr.next xv isS ty).run P w |>.andThen fun v w' => .ok (.value v) w') := by
  unfold anext at hm
  split at hm
  · rename_i id
    split at hm
    · rename_i a pos hcell
      obtain ⟨l, hl, rfl⟩ := hx
      obtain ⟨h0, hb⟩ : l.off = 0 ∧ w.heap[l.blk]? = some (.stringIter a pos) := H.blk id _ l hcell hl
      have hat : l.at 0 = ⟨l.blk, 0, none⟩ := by simp [Loc.at, h0]
      rw [hat]
      have hg : (getObj l.blk).run P w = .ok (.stringIter a pos) w := by simp [getObj, Sem.run, hb]
      split at hm
      · rename_i hlt
        cases hm
        have hs : (setObj l.blk (.stringIter a (pos + (Utf8.decode a pos).2))).run P w = .ok () { w with heap := w.heap.setIfInBounds l.blk (.stringIter a (pos + (Utf8.decode a pos).2)) } := by
          simp [setObj, Sem.run, hb]
        have hrun : (Instr.next (.pointer (some ⟨l.blk, 0, none⟩)) true ty).run P w = .ok (.tuple #[.bool true, .int .i64 pos, .int .i32 (Utf8.decode a pos).1]) { w with heap := w.heap.setIfInBounds l.blk (.stringIter a (pos + (Utf8.decode a pos).2)) } := by
          simp only [Instr.next, Sem.run_bind, hg, Result.andThen_ok, if_pos hlt, hs, Sem.run_pure, goInt]
        rw [hrun]
        have hlb : l.blk < w.heap.size := H.lt id _ l hcell hl rfl
        refine ⟨[], _, _, .inl rfl, ?_, ⟨_, rfl, ⟨_, _, rfl, rfl, ⟨_, _, rfl, rfl, ⟨_, _, rfl, rfl, rfl⟩⟩⟩⟩, ⟨rfl, rfl, rfl, by simp, fun b hb' => ?_⟩⟩
        · rw [List.append_nil]
          refine H.upd hcell hl rfl (by simp) (fun b hb' => ?_) ⟨h0, ?_⟩
          · simp only [Array.getElem?_setIfInBounds]; rw [if_neg (Ne.symm hb')]
          · simp [hlb]
        · simp only [Array.getElem?_setIfInBounds]
          rw [if_neg (fun (e : l.blk = b) => hb' (e ▸ H.ours id _ l hcell hl rfl))]
      · rename_i hlt
        cases hm
        have hrun : (Instr.next (.pointer (some ⟨l.blk, 0, none⟩)) true ty).run P w = .ok (.tuple #[.bool false]) w := by
          simp only [Instr.next, Sem.run_bind, hg, Result.andThen_ok, if_neg hlt, Sem.run_pure]
        rw [hrun]
        exact ⟨[], _, w, .inl rfl, by simpa using H, ⟨_, rfl, ⟨_, _, rfl, rfl, rfl⟩⟩, Keeps.refl _ _⟩
    · cases hm
  · cases hm
theorem numsOf_run : ∀ {c : List AV} {vs : List Value} {ns : List Int}, numsOf c = some ns → VRels ρ c vs → vs = ns.map (Value.int .u8)
  | [], _, _, h, hr => by cases h; cases hr; rfl
  | x :: xs, _, ns, h, ⟨y, ys, h1, h2, h3⟩ => by
    subst h1
    unfold numsOf at h
    split at h
    · rename_i e; cases e
    · rename_i e
      cases e
      obtain ⟨l, hl, rfl⟩ := Option.map_eq_some_iff.1 h
      cases h2
      rw [List.map_cons, ← numsOf_run hl h3]
    · cases h
theorem push_all : ∀ (ns : List Int) (s : ByteArray), ns.foldl (fun (r : ByteArray) n => r.push (UInt8.ofNat n.toNat)) s = ⟨s.data ++ (ns.map fun n => UInt8.ofNat n.toNat).toArray⟩
  | [], s => by simp
  | n :: ns, s => by
    rw [List.foldl_cons, push_all ns]
    congr 1
    apply Array.ext'
    simp [ByteArray.push]
theorem atext_run (H : HRel own ρ h w) {src dst : TypeId} {x r : AV} {xv : Value} (hx : VRel ρ x xv) (hm : atext P h src dst x = some r) :
    ∃ z, VRel ρ r z ∧ (convert src dst xv).run P w = .ok z w := by
  unfold atext at hm
  split at hm
  · rename_i e hs hd
    split at hm
    · rename_i he
      split at hm
      · cases hm; cases hx
        exact ⟨_, rfl, by simp [convert, run_underlying hs, run_underlying hd, run_underlying he, Conv.bytesToString]⟩
      · rename_i id off len cap
        obtain ⟨l, a, hl, _, hle, rfl, hat⟩ := hx
        obtain ⟨⟨c, wr⟩, hc, hm⟩ := Option.bind_eq_some_iff.1 hm
        split at hm
        · rename_i hfit
          obtain ⟨ns, hns, rfl⟩ := Option.map_eq_some_iff.1 hm
          obtain ⟨l', hl', hb⟩ := H.loc (hcells_some hc)
          obtain rfl : l = l' := Option.some.inj (hl.symm.trans hl')
          obtain ⟨vs, k1, k2, k3⟩ := cells_at hb len off hfit
          have hv := numsOf_run hns k2
          have hload : (loadCells a len).run P w = .ok (ns.map (Value.int .u8)).toArray w := by
            by_cases h0 : len = 0
            · subst h0
              have hnil : vs = [] := List.eq_nil_of_length_eq_zero k1
              rw [← hv, hnil]
              simp [loadCells, loadCellsFrom]
            · rw [hat (by omega), ← k1, ← hv]
              exact loadCells_at k3
          refine ⟨_, rfl, ?_⟩
          have := run_bytesToString (P := P) w a len (capOf l off 1 cap) ns hload
          rw [push_all] at this
          simp only [convert, Sem.run_bind, run_underlying hs, run_underlying hd, run_underlying he, Result.andThen_ok]
          rw [this]
          simp
        · cases hm
      · cases hm
    · cases hm
  · cases hm
theorem aread_run (H : HRel own ρ h w) {E : Operand → AV} {e : Operand → Value} (hE : ∀ x, VRel ρ (E x) (e x)) {o : Oper} {r : AV} (hr : aread P E h o.op = some r) :
    ∃ z, VRel ρ r z ∧ (execOp e o).run P w = .ok (.value z) w := by
  obtain ⟨dst, op, ty, pos, after, guard⟩ := o
  simp only at hr
  unfold aread at hr
  split at hr
  · rename_i t a
    obtain ⟨z, hz, hw⟩ := aload_run H hr (hE a)
    exact ⟨z, hz, by simp only [execOp, Sem.run_bind, hw, Result.andThen_ok, Sem.run_pure]⟩
  · rename_i src dst x
    obtain ⟨z, hz, hw⟩ := atext_run H (hE x) hr
    exact ⟨z, hz, by simp only [execOp, Sem.run_bind, hw, Result.andThen_ok, Sem.run_pure]⟩
  · cases hr

/-- What an operation does, whatever it is: a value, and rows. -/
def OpDone (P : Program) (own : Nat → Prop) (ρ : List Loc) (w : World) (r : AV) (h' : Hp) (o : Oper) (a : Act) : Prop :=
  ∀ (K : Act → World → Prop) (Q : Exit → Act → World → Prop), (∀ σ z w', HRel own (ρ ++ σ) h' w' → VRel (ρ ++ σ) r z → Keeps own w w' → K (a.put o.dst z) w') → o.wp P a w K Q
theorem OpDone.of_eff {r : AV} {h' : Hp} {o : Oper} {a : Act} (he : EffOk own ρ w r h' ((execOp a.eval o).run P w)) : OpDone P own ρ w r h' o a := by
  obtain ⟨σ, z, w', h1, h2, h3, h4⟩ := he
  intro K Q hK
  unfold Oper.wp
  rcases h1 with h1 | ⟨h1, rfl⟩
  · rw [h1]; exact hK σ z w' h2 h3 h4
  · rw [h1]; exact hK σ undef w' h2 h3 h4
theorem acall_run {Γ : Env} (hΓ : Sound P Γ) (H : HRel own ρ h w) {a : Act} {t : List AV} (ht : VRels ρ t a.tmps.toList) {dst : Option Tmp} {c : Call} {ty : TypeId} {pos : String} {after : Array Edge} {guard : Option (Nat × Bool)} {r : AV} {h' : Hp}
    (hr : acall P Γ (ev t) h c = some (r, h')) : OpDone P own ρ w r h' ⟨dst, .call c, ty, pos, after, guard⟩ a := by
  have hE := fun x => ev_rel ht x
  obtain ⟨callee, args, tys⟩ := c
  unfold acall at hr
  split at hr
  · rename_i f hc
    simp only at hc
    subst hc
    split at hr
    · rename_i g caps hf
      have hfr := hE f
      rw [hf] at hfr
      obtain ⟨ys, hfv, hcr⟩ := hfr
      have hargs : VRels ρ (args.toList.map (ev t) ++ caps) (args.toList.map a.eval ++ ys) := (VRels.map _ fun x _ => hE x).append hcr
      rcases hΓ _ _ _ _ _ hr with ⟨⟨fn, hfn, hbody, hname⟩, hcalls⟩ | hext
      rotate_left
      · obtain ⟨σ, z, w', e1, e2, e3, e4⟩ := hext own ρ w _ H hargs
        refine OpDone.of_eff ⟨σ, z, w', .inl ?_, e2, e3, e4⟩
        have e1' : (callFunc g (#[] ++ args.map a.eval ++ ys.toArray)).run P w = .ok (.value z) w' := by
          rw [← e1]; congr 2; apply Array.ext'; simp
        simp only [execOp, resolve, hfv, Deferred.ofValue, Sem.run_bind, Sem.run_pure, Result.andThen_ok, invoke]
        exact e1'
      have hC := hcalls own ρ w _ H hargs
      intro K Q hK
      unfold Oper.wp
      have hrun : (execOp a.eval ⟨dst, .call ⟨.value f, args, tys⟩, ty, pos, after, guard⟩).run P w = .ok (.enter g (args.toList.map a.eval ++ ys).toArray) w := by
        simp only [execOp, resolve, hfv, Deferred.ofValue, Sem.run_bind, Sem.run_pure, Result.andThen_ok, invoke, callFunc, run_program, hfn, hname, hbody, Bool.false_eq_true, if_false]
        congr 2
        apply Array.ext'
        simp
      rw [hrun, Oper.upon_enter]
      refine hC.mono fun e w' he => ?_
      obtain ⟨σ, z, rfl, k1, k2, k3⟩ := he
      exact hK σ z w' k1 k2 k3
    · cases hr
  · rename_i hc
    simp only at hc
    subst hc
    split at hr
    · rename_i s x t' u ha hu
      simp only at ha hu
      obtain rfl := arr_of ha
      obtain rfl := arr_of hu
      split at hr
      · rename_i e' hu'
        have := aappend_eff H ty hu' (.inr ⟨_, rfl⟩) (hE s) (hE x) hr
        refine OpDone.of_eff ?_
        simpa [execOp, resolve, invoke, builtin] using this
      · rename_i hu'
        have := aappend_eff H ty hu' (.inl rfl) (hE s) (hE x) hr
        refine OpDone.of_eff ?_
        simpa [execOp, resolve, invoke, builtin] using this
      · cases hr
    · cases hr
  · rename_i hc
    simp only at hc
    subst hc
    split at hr
    · rename_i s x t' u ha hu
      simp only at ha hu
      obtain rfl := arr_of ha
      obtain rfl := arr_of hu
      have := acopy_eff (u := u) H ty (hE s) (hE x) hr
      refine OpDone.of_eff ?_
      simpa [execOp, resolve, invoke, builtin] using this
    · cases hr
  · cases hr
theorem freeze_cell (w : World) (b n : Nat) (x : Addr) : (w.freeze ⟨b, n, none⟩ 1).cell? x = w.cell? x := by
  unfold World.freeze
  rw [if_neg (by decide)]
  simp only [World.cell?, Array.getElem?_modify]
  by_cases hb : b = x.block
  · subst hb
    simp only [if_true]
    cases w.heap[x.block]? with
    | none => rfl
    | some o => cases o <;> rfl
  · simp only [if_neg hb]
theorem amark_run (H : HRel own ρ h w) {src dst : TypeId} {x r : AV} {u : Value} {h' : Hp} (hx : VRel ρ x u) (hm : amark P h src dst x = some (r, h')) :
    ∃ w', (convert src dst u).run P w = .ok u w' ∧ HRel own ρ h' w' ∧ VRel ρ r u ∧ Keeps own w w' := by
  unfold amark at hm
  split at hm
  · rename_i e0 e id off n esz cap hs hd
    split at hm
    · rename_i hsd
      subst hsd
      have hee : e0 = e := by simpa using hs.symm.trans hd
      subst hee
      split at hm
      · rename_i he
        obtain ⟨⟨c, wr⟩, hc, hm⟩ := Option.bind_eq_some_iff.1 hm
        split at hm
        · rename_i hq
          obtain ⟨hwr, hpos⟩ := hq
          simp only at hwr hpos
          subst hwr
          cases hm
          have hx' := hx
          obtain ⟨l, a, hl, h0, hle, rfl, hat⟩ := hx
          have ha := hat (by omega)
          subst ha
          have hrow := hcells_some hc
          have hb := H.blk id _ l hrow hl
          have hcell := (hb.2.2 rfl 0 (by have := hb.1; omega)).1
          have hown := H.ours id _ l hrow hl rfl
          obtain ⟨C, el, fr, hheap⟩ : ∃ C el fr, w.heap[l.blk]? = some (.cells C el fr) := by
            unfold World.cell? at hcell
            simp only [Loc.at] at hcell
            split at hcell
            · rename_i C el fr hh; exact ⟨C, el, fr, hh⟩
            · simp at hcell
          have hsh : w.shape? l.blk = some (el, C.size) := by simp [World.shape?, hheap]
          have hne : ∀ b, b ≠ l.blk → (w.freeze ⟨l.blk, C.size, none⟩ 1).heap[b]? = w.heap[b]? := fun b hb => by
            unfold World.freeze
            rw [if_neg (by decide)]
            simp only [Array.getElem?_modify, if_neg (Ne.symm hb)]
          have hsize : (w.freeze ⟨l.blk, C.size, none⟩ 1).heap.size = w.heap.size := by
            unfold World.freeze
            rw [if_neg (by decide)]
            simp
          refine ⟨w.freeze ⟨l.blk, C.size, none⟩ 1, ?_, ?_, hx', ?_⟩
          · simp [convert, run_underlying hs, run_underlying he, markStringish, hsh, Loc.at]
          · refine H.upd hrow hl rfl hsize hne ⟨hb.1, fun j a hj => ?_, fun hf => by cases hf⟩
            obtain ⟨v, hv, hr⟩ := hb.2.1 j a hj
            exact ⟨v, by rw [freeze_cell]; exact hv, hr⟩
          · refine ⟨?_, ?_, ?_, by rw [hsize]; exact Nat.le_refl _, fun b hb => hne b fun e => hb (e ▸ hown)⟩ <;>
            · unfold World.freeze
              rw [if_neg (by decide)]
        · cases hm
      · cases hm
    · cases hm
  · cases hm
theorem aeff_run {Γ : Env} (hΓ : Sound P Γ) (H : HRel own ρ h w) {a : Act} {t : List AV} (ht : VRels ρ t a.tmps.toList) {o : Oper} {r : AV} {h' : Hp} (hr : aeff P Γ (ev t) h o.op = some (r, h')) :
    OpDone P own ρ w r h' o a := by
  have hE := fun x => ev_rel ht x
  obtain ⟨dst, op, ty, pos, after, guard⟩ := o
  simp only at hr
  unfold aeff at hr
  split at hr
  · rename_i t'
    obtain ⟨c, hc, hq⟩ := Option.map_eq_some_iff.1 hr
    cases hq
    refine OpDone.of_eff ?_
    have := alloc_eff H hc
    simpa only [execOp, Sem.run_bind, Sem.run_pure] using this
  · rename_i t' x
    split at hr
    · rename_i hg
      cases hr
      refine OpDone.of_eff ?_
      have := box_eff (P := P) (t := t') H hg (hE x)
      simpa only [execOp, Sem.run_bind, Sem.run_pure] using this
    · cases hr
  · rename_i t' len parts
    refine OpDone.of_eff ?_
    have := buildSlice_eff H hE hr
    simpa only [execOp, Sem.run_bind, Sem.run_pure] using this
  · rename_i t' l c
    refine OpDone.of_eff ?_
    have := makeSlice_eff H (hE l) (hE c) hr
    simpa only [execOp, Sem.run_bind, Sem.run_pure] using this
  · rename_i t' x y
    obtain ⟨h1, hh1, hq⟩ := Option.map_eq_some_iff.1 hr
    cases hq
    obtain ⟨w', k1, k2, k3⟩ := astore_run H hh1 (hE x) (hE y)
    refine OpDone.of_eff ⟨[], undef, w', .inr ⟨?_, rfl⟩, by simpa using k2, ⟨[], rfl, rfl⟩, k3⟩
    simp only [execOp, Sem.run_bind, k1, Result.andThen_ok, Sem.run_pure]
  · rename_i src dst x
    split at hr
    · rename_i q hq
      rw [hr] at hq
      refine OpDone.of_eff ?_
      have := toBytes_eff H (hE x) hq
      simpa only [execOp, Sem.run_bind, Sem.run_pure] using this
    · obtain ⟨w', k1, k2, k3, k4⟩ := amark_run H (hE x) hr
      refine OpDone.of_eff ⟨[], _, w', .inl ?_, by simpa using k2, by simpa using k3, k4⟩
      simp only [execOp, Sem.run_bind, k1, Result.andThen_ok, Sem.run_pure]
  · rename_i c
    exact acall_run hΓ H ht hr
  · rename_i t' x
    refine OpDone.of_eff ?_
    have := arange_eff H (hE x) hr
    simpa only [execOp, Sem.run_bind, Sem.run_pure] using this
  · rename_i it s
    refine OpDone.of_eff ?_
    have := anext_eff (P := P) (ty := ty) H (hE it) hr
    simpa only [execOp, Sem.run_bind, Sem.run_pure] using this
  · cases hr
end
end Go.Proofs.YtohaalilplngnaaDoor.Eng
