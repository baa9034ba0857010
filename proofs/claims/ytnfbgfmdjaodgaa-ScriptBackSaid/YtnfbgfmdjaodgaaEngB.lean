/- How the values without addresses stand for the machine's, and that the operations that look at no row do what they say. -/
import Derived.Test.YtnfbgfmdjaodgaaEngA
import Derived.WideLaws
import Derived.ChangeKeysEq
namespace Go.Proofs.Ytnfbgfmdjaodgaa.Eng

structure Loc where
  blk : Nat
  off : Nat
  cap : Nat

def Loc.at (l : Loc) (o : Nat) : Addr := ⟨l.blk, l.off + o, none⟩
def capOf (l : Loc) (off esz : Nat) : Option Nat → Nat
  | some c => c
  | none => (l.cap - off) / esz

mutual
def VRel (ρ : List Loc) : AV → Value → Prop
  | .bad, _ => True
  | .bo b, v => v = .bool b
  | .i k n, v => v = .int k n
  | .s x, v => v = .string x
  | .pn, v => v = .pointer none
  | .p id off, v => ∃ l, ρ[id]? = some l ∧ v = .pointer (some (l.at off))
  | .sn, v => v = .slice none 0 0
  | .sl id off len esz cap, v => ∃ l a, ρ[id]? = some l ∧ 0 < esz ∧ len ≤ capOf l off esz cap ∧ v = .slice (some a) len (capOf l off esz cap) ∧ (0 < capOf l off esz cap → a = l.at off)
  | .mn, v => v = .map none
  | .m id, v => ∃ l, ρ[id]? = some l ∧ v = .map (some l.blk)
  | .nf, v => v = .nilFunc
  | .ni, v => v = .nilIface
  | .ic t x, v => ∃ y, v = .iface t y ∧ VRel ρ x y
  | .fn f caps, v => ∃ ys : List Value, v = .func (.func f) #[] ys.toArray ∧ VRels ρ caps ys
  | .ag xs, v => ∃ ys : List Value, v = .agg ys.toArray ∧ VRels ρ xs ys
  | .tu xs, v => ∃ ys : List Value, v = .tuple ys.toArray ∧ VRels ρ xs ys
def VRels (ρ : List Loc) : List AV → List Value → Prop
  | [], ys => ys = []
  | x :: xs, ys => ∃ y ys', ys = y :: ys' ∧ VRel ρ x y ∧ VRels ρ xs ys'
end

theorem get_more {ρ : List Loc} (σ : List Loc) {id : Nat} {l : Loc} (h : ρ[id]? = some l) : (ρ ++ σ)[id]? = some l := by
  have := (List.getElem?_eq_some_iff.1 h).1
  rw [List.getElem?_append_left this]; exact h
mutual
theorem VRel.more {ρ : List Loc} (σ : List Loc) : ∀ {a : AV} {v : Value}, VRel ρ a v → VRel (ρ ++ σ) a v
  | .bad, _, _ => trivial
  | .bo _, _, h => h
  | .i _ _, _, h => h
  | .s _, _, h => h
  | .pn, _, h => h
  | .p _ _, _, ⟨l, h1, h2⟩ => ⟨l, get_more σ h1, h2⟩
  | .sn, _, h => h
  | .sl _ _ _ _ _, _, ⟨l, a, h1, h2⟩ => ⟨l, a, get_more σ h1, h2⟩
  | .mn, _, h => h
  | .m _, _, ⟨l, h1, h2⟩ => ⟨l, get_more σ h1, h2⟩
  | .nf, _, h => h
  | .ni, _, h => h
  | .ic _ x, _, ⟨y, h1, h2⟩ => ⟨y, h1, VRel.more σ (a := x) h2⟩
  | .fn _ caps, _, ⟨ys, h1, h2⟩ => ⟨ys, h1, VRels.more σ (as := caps) h2⟩
  | .ag xs, _, ⟨ys, h1, h2⟩ => ⟨ys, h1, VRels.more σ (as := xs) h2⟩
  | .tu xs, _, ⟨ys, h1, h2⟩ => ⟨ys, h1, VRels.more σ (as := xs) h2⟩
theorem VRels.more {ρ : List Loc} (σ : List Loc) : ∀ {as : List AV} {vs : List Value}, VRels ρ as vs → VRels (ρ ++ σ) as vs
  | [], _, h => h
  | x :: xs, _, ⟨y, ys', h1, h2, h3⟩ => ⟨y, ys', h1, VRel.more σ (a := x) h2, VRels.more σ (as := xs) h3⟩
end

section lists
variable {ρ : List Loc}
theorem VRels.length : ∀ {as : List AV} {vs : List Value}, VRels ρ as vs → vs.length = as.length
  | [], _, h => by cases h; rfl
  | x :: xs, _, ⟨y, ys', h1, _, h3⟩ => by subst h1; simp [VRels.length (as := xs) h3]
theorem VRels.get : ∀ {as : List AV} {vs : List Value}, VRels ρ as vs → ∀ (j : Nat) {a : AV}, as[j]? = some a → ∃ v, vs[j]? = some v ∧ VRel ρ a v
  | [], _, _, j, a, h => by simp at h
  | x :: xs, _, ⟨y, ys', h1, h2, h3⟩, j, a, h => by
    subst h1
    cases j with
    | zero => simp only [List.getElem?_cons_zero, Option.some.injEq] at h; subst h; exact ⟨y, rfl, h2⟩
    | succ j => exact VRels.get (as := xs) h3 j (by simpa using h)
theorem VRels.set : ∀ {as : List AV} {vs : List Value}, VRels ρ as vs → ∀ (j : Nat) {a : AV} {v : Value}, VRel ρ a v → VRels ρ (as.set j a) (vs.set j v)
  | [], _, h, j, _, _, _ => by cases h; simp [VRels]
  | x :: xs, _, ⟨y, ys', h1, h2, h3⟩, j, a, v, h => by
    subst h1
    cases j with
    | zero => exact ⟨v, ys', rfl, h, h3⟩
    | succ j => exact ⟨y, _, rfl, h2, VRels.set (as := xs) h3 j h⟩
theorem VRels.append : ∀ {as bs : List AV} {vs us : List Value}, VRels ρ as vs → VRels ρ bs us → VRels ρ (as ++ bs) (vs ++ us)
  | [], _, _, _, h, k => by cases h; exact k
  | x :: xs, _, _, _, ⟨y, ys', h1, h2, h3⟩, k => by subst h1; exact ⟨y, _, rfl, h2, VRels.append (as := xs) h3 k⟩
theorem VRels.drop : ∀ {as : List AV} {vs : List Value} (n : Nat), VRels ρ as vs → VRels ρ (as.drop n) (vs.drop n)
  | [], _, n, h => by cases h; simp [VRels]
  | x :: xs, _, 0, h => h
  | x :: xs, _, n + 1, ⟨y, ys', h1, _, h3⟩ => by subst h1; exact VRels.drop (as := xs) n h3
theorem VRels.take : ∀ {as : List AV} {vs : List Value} (n : Nat), VRels ρ as vs → VRels ρ (as.take n) (vs.take n)
  | [], _, n, h => by cases h; simp [VRels]
  | x :: xs, _, 0, _ => by simp [VRels]
  | x :: xs, _, n + 1, ⟨y, ys', h1, h2, h3⟩ => by subst h1; exact ⟨y, _, rfl, h2, VRels.take (as := xs) n h3⟩
theorem VRels.setAll : ∀ {bs : List AV} {us : List Value} {as : List AV} {vs : List Value} (o : Nat), VRels ρ as vs → VRels ρ bs us →
    VRels ρ (setAll as o bs) ((us.zipIdx o).foldl (fun (c : List Value) q => c.set q.2 q.1) vs)
  | [], _, _, _, o, h, k => by cases k; exact h
  | b :: bs, _, as, vs, o, h, ⟨y, ys', h1, h2, h3⟩ => by
    subst h1
    simp only [Eng.setAll, List.zipIdx_cons, List.foldl_cons]
    exact VRels.setAll (bs := bs) (o + 1) (h.set o h2) h3
theorem VRels.map {α : Type} {f : α → AV} {g : α → Value} : ∀ (l : List α), (∀ x ∈ l, VRel ρ (f x) (g x)) → VRels ρ (l.map f) (l.map g)
  | [], _ => rfl
  | x :: xs, h => ⟨g x, _, rfl, h x (by simp), VRels.map xs fun y hy => h y (by simp [hy])⟩
end lists

theorem setAll_length : ∀ (c : List AV) (o : Nat) (xs : List AV), (setAll c o xs).length = c.length
  | c, o, [] => rfl
  | c, o, x :: xs => by simp [setAll, setAll_length _ _ xs]

section
variable {ρ : List Loc}
theorem flatV_rel (v : Value) : VRel ρ (flatV v) v := by
  unfold flatV
  split <;> simp [VRel]
theorem ofV_rel (v : Value) : VRel ρ (ofV v) v := by
  unfold ofV
  split
  · rename_i cs; exact ⟨cs.toList, by simp, by have := VRels.map (ρ := ρ) (f := flatV) (g := id) cs.toList (fun x _ => flatV_rel x); simpa using this⟩
  · rename_i cs; exact ⟨cs.toList, by simp, by have := VRels.map (ρ := ρ) (f := flatV) (g := id) cs.toList (fun x _ => flatV_rel x); simpa using this⟩
  · exact flatV_rel v
theorem ev_rel {t : List AV} {a : Act} (h : VRels ρ t a.tmps.toList) (x : Operand) : VRel ρ (ev t x) (a.eval x) := by
  cases x with
  | tmp n =>
    simp only [ev, Act.eval]
    by_cases hn : n < t.length
    · obtain ⟨v, hv, hr⟩ := h.get n (List.getElem?_eq_getElem hn)
      have hlen := h.length
      have : a.tmps.getD n undef = v := by
        rw [Array.getD_eq_getD_getElem?]
        rw [← Array.getElem?_toList, hv]; rfl
      rw [this, List.getD_eq_getElem?_getD, List.getElem?_eq_getElem hn]
      exact hr
    · have hlen := h.length
      have hn' : t.length ≤ n := Nat.le_of_not_lt hn
      have : a.tmps.getD n undef = undef := by
        rw [Array.getD_eq_getD_getElem?, Array.getElem?_eq_none (by rw [← Array.length_toList, hlen]; exact hn')]; rfl
      rw [this, List.getD_eq_getElem?_getD, List.getElem?_eq_none hn']
      exact ⟨[], rfl, rfl⟩
  | const v => exact ofV_rel v
  | global g => trivial
  | func f => exact ⟨[], rfl, rfl⟩
theorem VRel.cells {a : AV} {v : Value} (h : VRel ρ a v) (hb : a ≠ .bad) : VRels ρ a.cells v.cells.toList := by
  cases a with
  | bad => exact absurd rfl hb
  | ag xs => obtain ⟨ys, rfl, hr⟩ := h; simpa [AV.cells, Value.cells] using hr
  | bo b => cases h; exact ⟨_, _, rfl, rfl, rfl⟩
  | i k n => cases h; exact ⟨_, _, rfl, rfl, rfl⟩
  | s x => cases h; exact ⟨_, _, rfl, rfl, rfl⟩
  | pn => cases h; exact ⟨_, _, rfl, rfl, rfl⟩
  | p id off => obtain ⟨l, h1, rfl⟩ := h; exact ⟨_, _, rfl, ⟨l, h1, rfl⟩, rfl⟩
  | sn => cases h; exact ⟨_, _, rfl, rfl, rfl⟩
  | sl id off len esz cap => have h' := h; obtain ⟨l, a, h1, h2, h3, rfl, h5⟩ := h; exact ⟨_, _, rfl, h', rfl⟩
  | mn => cases h; exact ⟨_, _, rfl, rfl, rfl⟩
  | m id => obtain ⟨l, h1, rfl⟩ := h; exact ⟨_, _, rfl, ⟨l, h1, rfl⟩, rfl⟩
  | nf => cases h; exact ⟨_, _, rfl, rfl, rfl⟩
  | ni => cases h; exact ⟨_, _, rfl, rfl, rfl⟩
  | ic t x => obtain ⟨y, rfl, hr⟩ := h; exact ⟨_, _, rfl, ⟨y, rfl, hr⟩, rfl⟩
  | fn f caps => obtain ⟨ys, rfl, hr⟩ := h; exact ⟨_, _, rfl, ⟨ys, rfl, hr⟩, rfl⟩
  | tu xs => obtain ⟨ys, rfl, hr⟩ := h; exact ⟨_, _, rfl, ⟨ys, rfl, hr⟩, rfl⟩
end
end Go.Proofs.Ytnfbgfmdjaodgaa.Eng
