/- For runs with variables: a function's regions by their numbers; a loop's fuel. -/
import Derived.Test.YtnfbgfmdjaodgaaEngP
set_option linter.unusedVariables false
set_option linter.unusedSimpArgs false
namespace Go.Proofs.Ytnfbgfmdjaodgaa.Eng

def bodyOf (f : Func) : Code := f.body.getD .skip
def regionsOf : Code → List (Nat × Array Oper)
  | .region id ops _ => [(id, ops)]
  | .seq a b => regionsOf a ++ regionsOf b
  | .cond _ a b => regionsOf a ++ regionsOf b
  | .block _ c => regionsOf c
  | .loop c => regionsOf c
  | .scope c => regionsOf c
  | _ => []
def reg (f : Func) (k : Nat) : Array Oper := ((regionsOf (bodyOf f)).find? (fun q => q.1 == k)).elim #[] (·.2)
section
variable {P : Program} {Γ : Env} {W : Nat → Option Road} {F : Nat}
theorem exec_reg {id : Nat} {ops : Array Oper} {s s' : St} (h : runOps P Γ ops ops.toList s = some s') : exec P Γ W F (.region id ops false) s = some (.n, s') := by
  simp only [exec, Bool.false_eq_true, if_false, h]
theorem exec_way {id : Nat} {ops : Array Oper} {s s' : St} (h : runWay P Γ ops (wayOf P W id ops) s = some s') : exec P Γ W F (.region id ops true) s = some (.n, s') := by
  simp only [exec, if_true, h]
theorem runOps_append {ops : Array Oper} : ∀ (l l' : List Oper) (s : St), runOps P Γ ops (l ++ l') s = match runOps P Γ ops l s with
    | some s' => runOps P Γ ops l' s'
    | none => none
  | [], l', s => rfl
  | o :: l, l', s => by
    simp only [List.cons_append, runOps]
    cases stepOp P Γ ops s o with
    | none => rfl
    | some s' => exact runOps_append l l' s'
theorem runOps_cut {ops : Array Oper} {l : List Oper} (k : Nat) {o : Oper} {s s1 s2 : St} {r : Option St} (h1 : runOps P Γ ops (l.take k) s = some s1) (ho : l[k]? = some o) (h2 : stepOp P Γ ops s1 o = some s2) (h3 : runOps P Γ ops (l.drop (k + 1)) s2 = r) : runOps P Γ ops l s = r := by
  have hk := (List.getElem?_eq_some_iff.1 ho)
  obtain ⟨hlt, he⟩ := hk
  have hl : l = l.take k ++ (o :: l.drop (k + 1)) := by
    rw [← he, ← List.drop_eq_getElem_cons hlt, List.take_append_drop]
  rw [hl, runOps_append, h1]
  simp only [runOps, h2]
  exact h3
theorem step_pure {ops : Array Oper} {s : St} {o : Oper} {v : AV} (hk : kindOf P o.op = 0) (hg : o.guard = none) (hv : apure P (ev s.t) o.op = some v) : stepOp P Γ ops s o = some ⟨putA s.t o.dst v, s.h⟩ := by
  simp only [stepOp, hk, pureOp, wantedA, hg, hv]
theorem step_read {ops : Array Oper} {s : St} {o : Oper} {v : AV} (hk : kindOf P o.op = 1) (hg : o.guard = none) (hv : aread P (ev s.t) s.h o.op = some v) : stepOp P Γ ops s o = some ⟨putA s.t o.dst v, s.h⟩ := by
  simp only [stepOp, hk, readOp, wantedA, hg, hv]
theorem step_index {ops : Array Oper} {s : St} {o : Oper} {t : TypeId} {x ix : Operand} {a : ByteArray} {k : IntKind} {n : Int} {b : UInt8} (ho : o.op = .index t x ix) (hg : o.guard = none) (hu : P.underlying t = some .string)
    (hx : ev s.t x = .s a) (hi : ev s.t ix = .i k n) (h0 : 0 ≤ n) (hb : a[n.toNat]? = some b) : stepOp P Γ ops s o = some ⟨putA s.t o.dst (.i .u8 b.toNat), s.h⟩ := by
  refine step_pure (by rw [ho]; rfl) hg ?_
  rw [ho]
  simp only [apure, hx, hi, aindex, hu, if_pos h0, hb, Option.map_some]
theorem step_load {ops : Array Oper} {s : St} {o : Oper} {t : TypeId} {x : Operand} {id off : Nat} {c : List AV} {wr : Bool} {v : AV} (ho : o.op = .load t x) (hg : o.guard = none) (hu : (P.underlying t).isNone = false) (ha : aggB P t = false)
    (hx : ev s.t x = .p id off) (hc : hcells s.h id = some (c, wr)) (hv : c[off]? = some v) : stepOp P Γ ops s o = some ⟨putA s.t o.dst v, s.h⟩ := by
  refine step_read (by rw [ho]; rfl) hg ?_
  rw [ho]
  simp only [aread, aload, hx, hc, Option.bind_some, hu, Bool.false_eq_true, if_false, ha, hv]
theorem step_indexAddr {ops : Array Oper} {s : St} {o : Oper} {t e : TypeId} {x ix : Operand} {id off len esz : Nat} {cap : Option Nat} {k : IntKind} {i : Int} (ho : o.op = .indexAddr t x ix) (hg : o.guard = none) (hu : P.underlying t = some (.slice e)) (hz : asz P e = some esz)
    (hx : ev s.t x = .sl id off len esz cap) (hi : ev s.t ix = .i k i) (h0 : 0 ≤ i) (h1 : i < len) : stepOp P Γ ops s o = some ⟨putA s.t o.dst (.p id (off + i.toNat * esz)), s.h⟩ := by
  refine step_pure (by rw [ho]; rfl) hg ?_
  rw [ho]
  simp only [apure, hx, hi, aindexAddr, hu]
  rw [if_pos ⟨hz, h0, h1⟩]
theorem loopN_more {f : St → Option (Ex × St)} {s : St} {r : Ex × St} : ∀ {n m : Nat}, loopN f n s = some r → n ≤ m → loopN f m s = some r := by
  intro n
  induction n generalizing s with
  | zero => intro m h; cases h
  | succ n ih =>
    intro m h hm
    cases m with
    | zero => omega
    | succ m =>
      simp only [loopN] at h ⊢
      split at h
      · rename_i s' hs; exact ih h (by omega)
      · rename_i hne
        cases hf : f s with
        | none => rw [hf] at h; cases h
        | some q =>
          obtain ⟨e, s'⟩ := q
          rw [hf] at h
          cases e with
          | n => exact absurd hf (hne s')
          | x id => exact h
          | r => exact h
end
end Go.Proofs.Ytnfbgfmdjaodgaa.Eng
