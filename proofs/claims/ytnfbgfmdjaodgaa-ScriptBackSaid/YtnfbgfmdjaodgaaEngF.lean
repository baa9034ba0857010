/- Loads, stores, rows that are laid: what they do to the rows. -/
import Derived.Test.YtnfbgfmdjaodgaaEngE
import Derived.Laws.IdiomStrings
set_option linter.unusedVariables false
set_option linter.unusedSimpArgs false
namespace Go.Proofs.Ytnfbgfmdjaodgaa.Eng
open Go.RowKit

section
variable (P : Program)
def hcells (h : Hp) (id : Nat) : Option (List AV × Bool) := match h[id]? with
  | some (.cells c wr) => some (c, wr)
  | _ => none
def aload (h : Hp) (t : TypeId) (x : AV) : Option AV :=
  match x with
  | .p id off => (hcells h id).bind fun q =>
    if (P.underlying t).isNone then none else
    if aggB P t then (asz P t).bind fun n => if off + n ≤ q.1.length then some (.ag ((q.1.drop off).take n)) else none
    else q.1[off]?
  | _ => none
def numsOf : List AV → Option (List Int)
  | [] => some []
  | .i .u8 n :: r => (numsOf r).map fun l => n :: l
  | _ => none
def atext (h : Hp) (src dst : TypeId) (x : AV) : Option AV :=
  match P.underlying src, P.underlying dst with
  | some (.slice e), some .string => match P.underlying e with
    | some (.int .u8) => match x with
      | .sn => some (.s ByteArray.empty)
      | .sl id off len 1 _ => (hcells h id).bind fun q => if off + len ≤ q.1.length then (numsOf ((q.1.drop off).take len)).map fun l => .s ⟨(l.map fun n => UInt8.ofNat n.toNat).toArray⟩ else none
      | _ => none
    | _ => none
  | _, _ => none
def aread (E : Operand → AV) (h : Hp) (o : Op) : Option AV :=
  match o with
  | .load t a => aload P h t (E a)
  | .convert src dst x => atext P h src dst (E x)
  | _ => none
def astore (h : Hp) (t : TypeId) (x v : AV) : Option Hp :=
  match x with
  | .p id off => (hcells h id).bind fun q =>
    if q.2 = true ∧ v.good = true ∧ asz P t = some v.cells.length ∧ v.cells.all AV.one = true ∧ off + v.cells.length ≤ q.1.length then some (h.set id (.cells (setAll q.1 off v.cells) true)) else none
  | _ => none
end

theorem setAll_get : ∀ (xs c : List AV) (o j : Nat), (setAll c o xs)[j]? = if o ≤ j ∧ j < o + xs.length ∧ j < c.length then xs[j - o]? else c[j]?
  | [], c, o, j => by simp only [setAll, List.length_nil]; rw [if_neg (by omega)]
  | x :: xs, c, o, j => by
    simp only [setAll]
    rw [setAll_get xs (c.set o x) (o + 1) j]
    simp only [List.length_set, List.length_cons]
    by_cases h1 : o + 1 ≤ j ∧ j < o + 1 + xs.length ∧ j < c.length
    · rw [if_pos h1, if_pos (by omega)]
      obtain ⟨k, hk⟩ : ∃ k, j - o = k + 1 := ⟨j - o - 1, by omega⟩
      rw [hk, List.getElem?_cons_succ]; congr 1; omega
    · rw [if_neg h1]
      by_cases h2 : j = o
      · subst h2
        by_cases h3 : j < c.length
        · rw [if_pos (by omega), List.getElem?_set_self h3]; simp
        · rw [if_neg (by omega), List.set_eq_of_length_le (by omega)]
      · rw [List.getElem?_set_ne (by omega), if_neg (by omega)]

section
variable {P : Program} {own : Nat → Prop} {ρ : List Loc} {h : Hp} {w : World}

theorem hcells_some {id : Nat} {c : List AV} {wr : Bool} (e : hcells h id = some (c, wr)) : h[id]? = some (.cells c wr) := by
  unfold hcells at e
  split at e
  · rename_i h1; cases e; exact h1
  · cases e
theorem size_setCells : ∀ (b : Nat) (vs : List Value) (o : Nat) (w : World), (w.setCells b o vs).heap.size = w.heap.size
  | b, [], o, w => rfl
  | b, v :: r, o, w => by rw [World.setCells, size_setCells b r]; simp [World.setCell]
theorem tape_setCells : ∀ (b : Nat) (vs : List Value) (o : Nat) (w : World), (w.setCells b o vs).tape = w.tape
  | b, [], o, w => rfl
  | b, v :: r, o, w => by rw [World.setCells, tape_setCells b r]; rfl
theorem heap_setCells_ne : ∀ (b : Nat) (vs : List Value) (o : Nat) (w : World) (k : Nat), k ≠ b → (w.setCells b o vs).heap[k]? = w.heap[k]?
  | b, [], o, w, k, _ => rfl
  | b, v :: r, o, w, k, hk => by
    rw [World.setCells, heap_setCells_ne b r _ _ k hk]
    simp only [World.setCell, Array.getElem?_modify, if_neg (Ne.symm hk)]
theorem cells_at {l : Loc} {c : List AV} {wr : Bool} (hb : BRel ρ w l (.cells c wr)) : ∀ (n o : Nat), o + n ≤ c.length → ∃ vs : List Value, vs.length = n ∧ VRels ρ ((c.drop o).take n) vs ∧ ∀ j v, vs[j]? = some v → w.cell? (l.at (o + j)) = some v
  | 0, o, _ => ⟨[], rfl, by simp [VRels], fun j v hv => by simp at hv⟩
  | n + 1, o, ho => by
    have hlt : o < c.length := by omega
    obtain ⟨v, hv, hr⟩ := hb.2.1 o c[o] (List.getElem?_eq_getElem hlt)
    obtain ⟨vs, h1, h2, h3⟩ := cells_at hb n (o + 1) (by omega)
    refine ⟨v :: vs, by simp [h1], ?_, fun j u hu => ?_⟩
    · rw [List.drop_eq_getElem_cons hlt, List.take_succ_cons]
      exact ⟨v, vs, rfl, hr, h2⟩
    · cases j with
      | zero => simp at hu; subst hu; exact hv
      | succ j => have := h3 j u (by simpa using hu); rw [← this]; congr 2; omega
theorem loadCells_at {l : Loc} {o : Nat} {vs : List Value} (hv : ∀ j v, vs[j]? = some v → w.cell? (l.at (o + j)) = some v) : (loadCells (l.at o) vs.length).run P w = .ok vs.toArray w :=
  run_loadCells_list (P := P) w (l.at o) vs (fun j v h => by rw [add_at]; exact hv j v h)
theorem aload_run (H : HRel own ρ h w) {t : TypeId} {x r : AV} {u : Value} (e : aload P h t x = some r) (hx : VRel ρ x u) : ∃ z, VRel ρ r z ∧ (Instr.loadAt t u).run P w = .ok z w := by
  unfold aload at e
  split at e
  · rename_i id off
    obtain ⟨l, hl, rfl⟩ := hx
    obtain ⟨⟨c, wr⟩, hc, e⟩ := Option.bind_eq_some_iff.1 e
    obtain ⟨l', hl', hb⟩ := H.loc (hcells_some hc)
    obtain rfl : l = l' := Option.some.inj (hl.symm.trans hl')
    cases hu : P.underlying t with
    | none => simp [hu] at e
    | some d =>
      simp only [hu, Option.isNone_some, Bool.false_eq_true, if_false] at e
      split at e
      · rename_i ha
        obtain ⟨n, hn, e⟩ := Option.bind_eq_some_iff.1 e
        split at e
        · rename_i hle
          cases e
          obtain ⟨vs, h1, h2, h3⟩ := cells_at hb n off hle
          refine ⟨.agg vs.toArray, ⟨vs, rfl, h2⟩, ?_⟩
          have := loadCells_at (P := P) h3
          rw [h1] at this
          simp only [Instr.loadAt, Instr.sureAddr, loadVar, Sem.run_bind, Sem.run_pure, Result.andThen_ok, isAgg_run hu, ha, if_true, asz_run hn, this]
        · cases e
      · rename_i ha
        obtain ⟨v, hv, hr⟩ := hb.2.1 off r e
        refine ⟨v, hr, ?_⟩
        simp only [Instr.loadAt, Instr.sureAddr, loadVar, Sem.run_bind, Sem.run_pure, Result.andThen_ok, isAgg_run hu, ha, Bool.false_eq_true, if_false]
        simp [hv]
  · cases e
theorem one_cell {a : AV} {v : Value} (hr : VRel ρ a v) (ho : a.one = true) : v.oneCell' = true := by
  cases a <;> first | (simp [AV.one] at ho; done) | skip
  all_goals first
    | (cases hr; rfl)
    | (obtain ⟨_, _, rfl⟩ := hr; rfl)
    | (obtain ⟨_, rfl, _⟩ := hr; rfl)
    | (obtain ⟨_, _, _, _, _, rfl, _⟩ := hr; rfl)
theorem ones {as : List AV} {vs : List Value} : VRels ρ as vs → as.all AV.one = true → ∀ v ∈ vs, v.oneCell' = true := by
  induction as generalizing vs with
  | nil => intro h _ v hv; cases h; simp at hv
  | cons a as ih =>
    rintro ⟨y, ys, rfl, h1, h2⟩ ho v hv
    simp only [List.all_cons, Bool.and_eq_true] at ho
    rcases List.mem_cons.1 hv with rfl | hv
    · exact one_cell h1 ho.1
    · exact ih h2 ho.2 v hv
theorem write_rel (H : HRel own ρ h w) {id : Nat} {c : List AV} {l : Loc} (h1 : h[id]? = some (.cells c true)) (h2 : ρ[id]? = some l) {off : Nat} {as : List AV} {vs : List Value} (hr : VRels ρ as vs)
    (hle : off + as.length ≤ c.length) : HRel own ρ (h.set id (.cells (setAll c off as) true)) (w.setCells l.blk (l.off + off) vs) ∧ Keeps own w (w.setCells l.blk (l.off + off) vs) := by
  have hb := H.blk id _ l h1 h2
  have hlen := hr.length
  have hcap := hb.1
  refine ⟨H.upd h1 h2 rfl (size_setCells _ _ _ _) (fun b hb' => heap_setCells_ne _ _ _ _ b hb') ⟨by rw [setAll_length]; exact hcap, fun j a hj => ?_, fun _ j hj => ?_⟩, ⟨World.os_setCells _ _ _ _, tape_setCells _ _ _ _, World.output_setCells _ _ _ _, by rw [size_setCells]; exact Nat.le_refl _, fun b hb' => heap_setCells_ne _ _ _ _ b (fun e => hb' (e ▸ H.ours id _ l h1 h2 rfl))⟩⟩
  · rw [setAll_get] at hj
    split at hj
    · rename_i hc
      obtain ⟨v, hv, hvr⟩ := hr.get _ hj
      refine ⟨v, ?_, hvr⟩
      have hjo : j - off < vs.length := by omega
      have hin := World.cell?_setCells_in l.blk vs (l.off + off) w (fun k hk => by
        have := (hb.2.2 rfl (off + k) (by omega)).1
        simp only [Loc.at] at this
        rw [Nat.add_assoc]; exact this) (j - off) hjo
      have e : l.off + off + (j - off) = l.off + j := by omega
      rw [e] at hin
      show (w.setCells l.blk (l.off + off) vs).cell? ⟨l.blk, l.off + j, none⟩ = some v
      rw [hin, ← hv, List.getElem?_eq_getElem hjo]
    · rename_i hc
      obtain ⟨v, hv, hvr⟩ := hb.2.1 j a hj
      have hjc : j < c.length := (List.getElem?_eq_some_iff.1 hj).1
      refine ⟨v, ?_, hvr⟩
      rw [World.cell?_setCells_out l.blk vs (l.off + off) w (l.at j) (fun _ _ => by simp only [Loc.at]; omega)]
      exact hv
  · exact ⟨World.isSome_setCells _ _ _ _ _ (hb.2.2 rfl j hj).1, by rw [World.frozen?_setCells]; exact (hb.2.2 rfl j hj).2⟩
theorem astore_run (H : HRel own ρ h w) {t : TypeId} {x v : AV} {u z : Value} {h' : Hp} (e : astore P h t x v = some h') (hx : VRel ρ x u) (hv : VRel ρ v z) :
    ∃ w', (Instr.storeAt t u z).run P w = .ok () w' ∧ HRel own ρ h' w' ∧ Keeps own w w' := by
  unfold astore at e
  split at e
  · rename_i id off
    obtain ⟨l, hl, rfl⟩ := hx
    obtain ⟨⟨c, wr⟩, hc, e⟩ := Option.bind_eq_some_iff.1 e
    split at e
    · rename_i hcond
      obtain ⟨h1, h2, h3, h4, h5⟩ := hcond
      simp only at h1 h5
      subst h1
      cases e
      have hcells := hv.cells (good_ne h2)
      have hlen := hcells.length
      obtain ⟨k1, k2⟩ := write_rel H (hcells_some hc) hl hcells h5
      have hb := H.blk id _ l (hcells_some hc) hl
      refine ⟨_, ?_, k1, k2⟩
      have hst := run_storeCells_cells (P := P) l.blk (l.off + off) z.cells.toList 0 w (fun j hj => by
          have := (hb.2.2 rfl (off + j) (by have := hb.1; omega)).1
          simp only [Loc.at] at this
          rw [Nat.add_zero, Nat.add_assoc]; exact this) (fun j hj => by
          have := (hb.2.2 rfl (off + j) (by have := hb.1; omega)).2
          simp only [Loc.at] at this
          rw [Nat.add_zero, Nat.add_assoc]; exact this) (ones hcells h4)
      rw [Nat.add_zero] at hst
      simp only [Instr.storeAt, Instr.sureAddr, storeVar, Sem.run_bind, Sem.run_pure, Result.andThen_ok, asz_run h3]
      rw [if_neg (by simp at hlen ⊢; omega)]
      exact hst
    · cases e
  · cases e
theorem new_rel (H : HRel own ρ h w) (cs : Array Value) (el : TypeId) (fr : Nat × Nat) {c : List AV} (hr : VRels ρ c (cs.toList.take c.length)) (hle : c.length ≤ cs.size) (hfr : cs.size ≤ fr.1 ∨ fr.2 = 0) :
    HRel own (ρ ++ [⟨w.heap.size, 0, cs.size⟩]) (h ++ [.cells c true]) (w.alloc (.cells cs el fr)) := by
  refine H.alloc _ _ _ rfl ⟨hle, fun j a hj => ?_, fun _ j hj => ?_⟩
  · obtain ⟨v, hv, hvr⟩ := hr.get j hj
    have hj' : j < c.length := (List.getElem?_eq_some_iff.1 hj).1
    refine ⟨v, ?_, hvr.more _⟩
    rw [List.getElem?_take_of_lt hj'] at hv
    simp only [Loc.at, Nat.zero_add]
    rw [World.cell?_alloc_mark]
    simpa using hv
  · simp only [Loc.at, Nat.zero_add] at hj ⊢
    obtain ⟨lo, hi⟩ := fr
    refine ⟨by rw [World.cell?_alloc_mark]; simp [hj], ?_⟩
    rw [World.frozen?_alloc_mark]
    simp only at hfr
    rcases hfr with hfr | hfr
    · simp; omega
    · simp; omega
theorem keeps_alloc (H : HRel own ρ h w) (o : Obj) : Keeps own w (w.alloc o) :=
  ⟨rfl, rfl, rfl, by simp, fun b hb => by
    have : b < w.heap.size := Nat.lt_of_not_le fun h => hb (H.fresh b h)
    exact heap_alloc_old w o b this⟩
end
end Go.Proofs.Ytnfbgfmdjaodgaa.Eng
