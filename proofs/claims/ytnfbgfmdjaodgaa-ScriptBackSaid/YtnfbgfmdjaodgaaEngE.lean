/- The rows in memory: what is known of them, and that it stays when one is laid or one is written. -/
import Derived.Test.YtnfbgfmdjaodgaaEngD
import Derived.Below
import Derived.Deep.MidRow
import Derived.Deep.Upon
set_option linter.unusedVariables false
set_option linter.unusedSimpArgs false
namespace Go.Proofs.Ytnfbgfmdjaodgaa.Eng
open Go.RowKit

def Blk.wrB : Blk → Bool
  | .cells _ wr => wr
  | .map _ => true
  | .iter _ _ => true
  | .dead => false
def Blk.solid : Blk → Bool
  | .cells c wr => wr || !c.isEmpty
  | .map _ => true
  | .iter _ _ => true
  | .dead => false

def BRel (ρ : List Loc) (w : World) (l : Loc) : Blk → Prop
  | .cells c wr => c.length ≤ l.cap ∧ (∀ j a, c[j]? = some a → ∃ v, w.cell? (l.at j) = some v ∧ VRel ρ a v) ∧
      (wr = true → ∀ j, j < l.cap → (w.cell? (l.at j)).isSome = true ∧ w.frozen? (l.at j) = false)
  | .map es => ∃ ents clock, w.heap[l.blk]? = some (.map ents clock) ∧ VRels ρ (es.map (·.1)) (ents.toList.map (·.key)) ∧ VRels ρ (es.map (·.2)) (ents.toList.map (·.val))
  | .iter s pos => l.off = 0 ∧ w.heap[l.blk]? = some (.stringIter s pos)
  | .dead => True

theorem cell_of_heap {w w' : World} {a : Addr} (h : w'.heap[a.block]? = w.heap[a.block]?) : w'.cell? a = w.cell? a := by
  unfold World.cell?; rw [h]
theorem frozen_of_heap {w w' : World} {a : Addr} (h : w'.heap[a.block]? = w.heap[a.block]?) : w'.frozen? a = w.frozen? a := by
  unfold World.frozen?; rw [h]
theorem BRel.congr {ρ : List Loc} {w w' : World} {l : Loc} {B : Blk} (hb : BRel ρ w l B) (h : w'.heap[l.blk]? = w.heap[l.blk]?) : BRel ρ w' l B := by
  cases B with
  | cells c wr =>
    obtain ⟨h1, h2, h3⟩ := hb
    refine ⟨h1, fun j a hj => ?_, fun hw j hj => ?_⟩
    · obtain ⟨v, hv, hr⟩ := h2 j a hj
      exact ⟨v, by rw [cell_of_heap (a := l.at j) h]; exact hv, hr⟩
    · rw [cell_of_heap (a := l.at j) h, frozen_of_heap (a := l.at j) h]
      exact h3 hw j hj
  | map es => obtain ⟨e, c, h1, h2⟩ := hb; exact ⟨e, c, h.trans h1, h2⟩
  | iter s pos => exact ⟨hb.1, h.trans hb.2⟩
  | dead => trivial
theorem BRel.more {ρ : List Loc} (σ : List Loc) {w : World} {l : Loc} {B : Blk} (hb : BRel ρ w l B) : BRel (ρ ++ σ) w l B := by
  cases B with
  | cells c wr =>
    obtain ⟨h1, h2, h3⟩ := hb
    exact ⟨h1, fun j a hj => (h2 j a hj).imp fun v hv => ⟨hv.1, hv.2.more σ⟩, h3⟩
  | map es => obtain ⟨e, c, h1, h2, h3⟩ := hb; exact ⟨e, c, h1, h2.more σ, h3.more σ⟩
  | iter s pos => exact hb
  | dead => trivial

def globs : List Nat := []
def globOk (w : World) : Prop := True
structure Glob (own : Nat → Prop) (w : World) : Prop where
  ours : ∀ b ∈ globs, ¬ own b ∧ b < w.heap.size
  base : ∃ w0, globOk w0 ∧ ∀ b ∈ globs, w.heap[b]? = w0.heap[b]?
theorem Glob.nil {own : Nat → Prop} {w : World} (h : globs = []) (k : globOk w) : Glob own w := ⟨fun b hb => absurd hb (by rw [h]; exact List.not_mem_nil), w, k, fun _ _ => rfl⟩
theorem Glob.start {w : World} (h : ∀ b ∈ globs, b < w.heap.size) (k : globOk w) : Glob (w.heap.size ≤ ·) w := ⟨fun b hb => ⟨fun e => by exact absurd (h b hb) (Nat.not_lt.2 e), h b hb⟩, w, k, fun _ _ => rfl⟩
theorem Glob.keep {own : Nat → Prop} {w w' : World} (G : Glob own w) (hs : w.heap.size ≤ w'.heap.size) (h : ∀ b, ¬ own b → b < w.heap.size → w'.heap[b]? = w.heap[b]?) : Glob own w' := by
  obtain ⟨w0, h1, h2⟩ := G.base
  exact ⟨fun b hb => ⟨(G.ours b hb).1, Nat.lt_of_lt_of_le (G.ours b hb).2 hs⟩, w0, h1, fun b hb => (h b (G.ours b hb).1 (G.ours b hb).2).trans (h2 b hb)⟩
theorem Glob.heap {own : Nat → Prop} {w w' : World} (G : Glob own w) (e : w'.heap = w.heap) : Glob own w' := G.keep (by rw [e]; exact Nat.le_refl _) (fun _ _ _ => by rw [e])
theorem Glob.own {own own' : Nat → Prop} {w : World} (G : Glob own w) (h : ∀ b, b < w.heap.size → own' b → own b) : Glob own' w := ⟨fun x hx => ⟨fun k => (G.ours x hx).1 (h _ (G.ours x hx).2 k), (G.ours x hx).2⟩, G.base⟩
theorem Glob.over {own : Nat → Prop} {w : World} (G : Glob own w) : Glob (w.heap.size ≤ ·) w := ⟨fun x hx => ⟨fun k => by exact absurd (G.ours x hx).2 (Nat.not_lt.2 k), (G.ours x hx).2⟩, G.base⟩

structure HRel (own : Nat → Prop) (ρ : List Loc) (h : Hp) (w : World) : Prop where
  glob : Glob own w
  len : ρ.length = h.length
  fresh : ∀ b, w.heap.size ≤ b → own b
  blk : ∀ (id : Nat) B l, h[id]? = some B → ρ[id]? = some l → BRel ρ w l B
  ours : ∀ (id : Nat) B l, h[id]? = some B → ρ[id]? = some l → B.wrB = true → own l.blk
  lt : ∀ (id : Nat) B l, h[id]? = some B → ρ[id]? = some l → B.solid = true → l.blk < w.heap.size
  sep : ∀ (i j : Nat) Bi Bj li lj, h[i]? = some Bi → h[j]? = some Bj → ρ[i]? = some li → ρ[j]? = some lj → i ≠ j → Bi.wrB = true → Bj.solid = true → li.blk ≠ lj.blk

structure Keeps (own : Nat → Prop) (w w' : World) : Prop where
  os : w'.os = w.os
  tape : w'.tape = w.tape
  output : w'.output = w.output
  size : w.heap.size ≤ w'.heap.size
  block : ∀ b, ¬ own b → w'.heap[b]? = w.heap[b]?
theorem Glob.keeps {own : Nat → Prop} {w w' : World} (G : Glob own w) (k : Keeps own w w') : Glob own w' := G.keep k.size fun b hb _ => k.block b hb
theorem Keeps.refl (own : Nat → Prop) (w : World) : Keeps own w w := ⟨rfl, rfl, rfl, Nat.le_refl _, fun _ _ => rfl⟩
theorem Keeps.trans {own : Nat → Prop} {a b c : World} (h : Keeps own a b) (k : Keeps own b c) : Keeps own a c :=
  ⟨k.os.trans h.os, k.tape.trans h.tape, k.output.trans h.output, Nat.le_trans h.size k.size, fun i hi => (k.block i hi).trans (h.block i hi)⟩
theorem Keeps.below {w w' : World} (h : Keeps (w.heap.size ≤ ·) w w') : Below w.heap.size w w' :=
  ⟨h.os, h.tape, h.output, h.size, fun k hk => h.block k (by omega)⟩

section
variable {own : Nat → Prop} {ρ : List Loc} {h : Hp} {w : World}

theorem HRel.loc (H : HRel own ρ h w) {id : Nat} {B : Blk} (hB : h[id]? = some B) : ∃ l, ρ[id]? = some l ∧ BRel ρ w l B := by
  have h1 := (List.getElem?_eq_some_iff.1 hB).1
  have h2 : id < ρ.length := by rw [H.len]; exact h1
  exact ⟨ρ[id], List.getElem?_eq_getElem h2, H.blk id B _ hB (List.getElem?_eq_getElem h2)⟩
theorem HRel.heap (H : HRel own ρ h w) {w' : World} (e : w'.heap = w.heap) : HRel own ρ h w' := by
  refine ⟨H.glob.heap e, H.len, fun b hb => H.fresh b (by rw [← e]; exact hb), fun id B l h1 h2 => (H.blk id B l h1 h2).congr (by rw [e]), H.ours, fun id B l h1 h2 h3 => by rw [e]; exact H.lt id B l h1 h2 h3, H.sep⟩
theorem HRel.alloc (H : HRel own ρ h w) (o : Obj) (l : Loc) (B : Blk) (hl : l.blk = w.heap.size) (hB : BRel (ρ ++ [l]) (w.alloc o) l B) : HRel own (ρ ++ [l]) (h ++ [B]) (w.alloc o) := by
  have hlen := H.len
  have old : ∀ b, b < w.heap.size → (w.alloc o).heap[b]? = w.heap[b]? := fun b hb => heap_alloc_old w o b hb
  have size : (w.alloc o).heap.size = w.heap.size + 1 := by simp
  have at_ : ∀ {id : Nat} {C : Blk} {m : Loc}, (h ++ [B])[id]? = some C → (ρ ++ [l])[id]? = some m → (h[id]? = some C ∧ ρ[id]? = some m) ∨ (id = h.length ∧ C = B ∧ m = l) := by
    intro id C m h1 h2
    by_cases hid : id < h.length
    · rw [List.getElem?_append_left hid] at h1
      rw [List.getElem?_append_left (by omega)] at h2
      exact .inl ⟨h1, h2⟩
    · have hid' : id = h.length := by
        have := (List.getElem?_eq_some_iff.1 h1).1
        simp at this; omega
      subst hid'
      rw [List.getElem?_append_right (by omega)] at h1
      rw [List.getElem?_append_right (by omega)] at h2
      simp [hlen] at h1 h2
      exact .inr ⟨rfl, h1.symm, h2.symm⟩
  refine ⟨H.glob.keep (by omega) (fun b _ hb => old b hb), by simp [hlen], fun b hb => H.fresh b (by rw [size] at hb; omega), fun id C m h1 h2 => ?_, fun id C m h1 h2 h3 => ?_, fun id C m h1 h2 h3 => ?_, fun i j Bi Bj li lj h1 h2 h3 h4 h5 h6 h7 => ?_⟩
  · rcases at_ h1 h2 with ⟨k1, k2⟩ | ⟨_, rfl, rfl⟩
    · have hb := (H.blk id C m k1 k2).more [l]
      by_cases hlt : m.blk < w.heap.size
      · exact hb.congr (old _ hlt)
      · have hns : C.solid = false := by
          cases hs : C.solid with
          | false => rfl
          | true => exact absurd (H.lt id C m k1 k2 hs) hlt
        cases C with
        | cells c wr =>
          simp only [Blk.solid, Bool.or_eq_false_iff, Bool.not_eq_false', List.isEmpty_iff] at hns
          obtain ⟨rfl, rfl⟩ := hns
          exact ⟨hb.1, fun j a hj => by simp at hj, fun hf => by simp at hf⟩
        | map es => simp [Blk.solid] at hns
        | iter s pos => simp [Blk.solid] at hns
        | dead => trivial
    · exact hB
  · rcases at_ h1 h2 with ⟨k1, k2⟩ | ⟨_, rfl, rfl⟩
    · exact H.ours id C m k1 k2 h3
    · exact H.fresh _ (by omega)
  · rcases at_ h1 h2 with ⟨k1, k2⟩ | ⟨_, rfl, rfl⟩
    · have := H.lt id C m k1 k2 h3; omega
    · omega
  · rcases at_ h1 h3 with ⟨a1, a2⟩ | ⟨rfl, rfl, rfl⟩ <;> rcases at_ h2 h4 with ⟨b1, b2⟩ | ⟨rfl, rfl, rfl⟩
    · exact H.sep i j Bi Bj li lj a1 b1 a2 b2 h5 h6 h7
    · have : Bi.solid = true := by cases Bi <;> simp_all [Blk.wrB, Blk.solid]
      have := H.lt i Bi li a1 a2 this; omega
    · have := H.lt j Bj lj b1 b2 h7; omega
    · exact absurd rfl h5
theorem HRel.upd (H : HRel own ρ h w) {id : Nat} {B B' : Blk} {l : Loc} {w' : World} (h1 : h[id]? = some B) (h2 : ρ[id]? = some l) (hw : B.wrB = true)
    (hs : w'.heap.size = w.heap.size) (hk : ∀ b, b ≠ l.blk → w'.heap[b]? = w.heap[b]?) (hB : BRel ρ w' l B') : HRel own ρ (h.set id B') w' := by
  have hid : id < h.length := (List.getElem?_eq_some_iff.1 h1).1
  have sol : B.solid = true := by cases B <;> simp_all [Blk.wrB, Blk.solid]
  have at_ : ∀ {i : Nat} {C : Blk}, (h.set id B')[i]? = some C → (i ≠ id ∧ h[i]? = some C) ∨ (i = id ∧ C = B') := by
    intro i C hi
    by_cases e : i = id
    · subst e; rw [List.getElem?_set_self hid] at hi; exact .inr ⟨rfl, (Option.some.inj hi).symm⟩
    · rw [List.getElem?_set_ne (Ne.symm e)] at hi; exact .inl ⟨e, hi⟩
  refine ⟨H.glob.keep (by omega) (fun b hb _ => hk b (fun e => hb (e ▸ H.ours id B l h1 h2 hw))), by simp [H.len], fun b hb => H.fresh b (by omega), fun i C m k1 k2 => ?_, fun i C m k1 k2 k3 => ?_, fun i C m k1 k2 k3 => ?_, fun i j Bi Bj li lj k1 k2 k3 k4 k5 k6 k7 => ?_⟩
  · rcases at_ k1 with ⟨hne, k1⟩ | ⟨rfl, rfl⟩
    · by_cases hs' : C.solid = true
      · exact (H.blk i C m k1 k2).congr (hk _ (Ne.symm (H.sep id i B C l m h1 k1 h2 k2 (Ne.symm hne) hw hs')))
      · have hb := H.blk i C m k1 k2
        cases C with
        | cells c wr =>
          simp only [Blk.solid, Bool.or_eq_true, Bool.not_eq_true', not_or, Bool.not_eq_true, Bool.not_eq_false, List.isEmpty_iff] at hs'
          obtain ⟨rfl, rfl⟩ := hs'
          exact ⟨hb.1, fun j a hj => by simp at hj, fun hf => by simp at hf⟩
        | map es => simp [Blk.solid] at hs'
        | iter s pos => simp [Blk.solid] at hs'
        | dead => trivial
    · obtain rfl : m = l := Option.some.inj (k2.symm.trans h2)
      exact hB
  · rcases at_ k1 with ⟨hne, k1⟩ | ⟨rfl, rfl⟩
    · exact H.ours i C m k1 k2 k3
    · obtain rfl : m = l := Option.some.inj (k2.symm.trans h2)
      exact H.ours i B m h1 h2 hw
  · rcases at_ k1 with ⟨hne, k1⟩ | ⟨rfl, rfl⟩
    · have := H.lt i C m k1 k2 k3; omega
    · obtain rfl : m = l := Option.some.inj (k2.symm.trans h2)
      have := H.lt i B m h1 h2 sol; omega
  · rcases at_ k1 with ⟨n1, q1⟩ | ⟨rfl, rfl⟩ <;> rcases at_ k2 with ⟨n2, q2⟩ | ⟨rfl, rfl⟩
    · exact H.sep i j Bi Bj li lj q1 q2 k3 k4 k5 k6 k7
    · obtain rfl : lj = l := Option.some.inj (k4.symm.trans h2)
      exact H.sep i j Bi B li lj q1 h1 k3 h2 k5 k6 sol
    · obtain rfl : li = l := Option.some.inj (k3.symm.trans h2)
      exact H.sep i j B Bj li lj h1 q2 h2 k4 k5 hw k7
    · exact absurd rfl k5
theorem HRel.kill (H : HRel own ρ h w) (id : Nat) : HRel own ρ (h.set id .dead) w := by
  by_cases hid : id < h.length
  · have at_ : ∀ {i : Nat} {C : Blk}, (h.set id .dead)[i]? = some C → (i ≠ id ∧ h[i]? = some C) ∨ (i = id ∧ C = .dead) := by
      intro i C hi
      by_cases e : i = id
      · subst e; rw [List.getElem?_set_self hid] at hi; exact .inr ⟨rfl, (Option.some.inj hi).symm⟩
      · rw [List.getElem?_set_ne (Ne.symm e)] at hi; exact .inl ⟨e, hi⟩
    refine ⟨H.glob, by simp [H.len], H.fresh, fun i C m k1 k2 => ?_, fun i C m k1 k2 k3 => ?_, fun i C m k1 k2 k3 => ?_, fun i j Bi Bj li lj k1 k2 k3 k4 k5 k6 k7 => ?_⟩
    · rcases at_ k1 with ⟨_, k1⟩ | ⟨rfl, rfl⟩
      · exact H.blk i C m k1 k2
      · trivial
    · rcases at_ k1 with ⟨_, k1⟩ | ⟨rfl, rfl⟩
      · exact H.ours i C m k1 k2 k3
      · simp [Blk.wrB] at k3
    · rcases at_ k1 with ⟨_, k1⟩ | ⟨rfl, rfl⟩
      · exact H.lt i C m k1 k2 k3
      · simp [Blk.solid] at k3
    · rcases at_ k1 with ⟨_, k1⟩ | ⟨rfl, rfl⟩ <;> rcases at_ k2 with ⟨_, k2⟩ | ⟨rfl, rfl⟩
      · exact H.sep i j Bi Bj li lj k1 k2 k3 k4 k5 k6 k7
      · simp [Blk.solid] at k7
      · simp [Blk.wrB] at k6
      · simp [Blk.wrB] at k6
  · rw [List.set_eq_of_length_le (by omega)]; exact H
theorem HRel.adopt (H : HRel own ρ h w) {l : Loc} {B : Blk} (ho : own l.blk) (hl : l.blk < w.heap.size) (hs : ∀ (j : Nat) Bj lj, h[j]? = some Bj → ρ[j]? = some lj → Bj.solid = true → l.blk ≠ lj.blk)
    (hB : BRel (ρ ++ [l]) w l B) : HRel own (ρ ++ [l]) (h ++ [B]) w := by
  have hlen := H.len
  have at_ : ∀ {id : Nat} {C : Blk} {m : Loc}, (h ++ [B])[id]? = some C → (ρ ++ [l])[id]? = some m → (h[id]? = some C ∧ ρ[id]? = some m) ∨ (id = h.length ∧ C = B ∧ m = l) := by
    intro id C m h1 h2
    by_cases hid : id < h.length
    · rw [List.getElem?_append_left hid] at h1
      rw [List.getElem?_append_left (by omega)] at h2
      exact .inl ⟨h1, h2⟩
    · have hid' : id = h.length := by
        have := (List.getElem?_eq_some_iff.1 h1).1
        simp at this; omega
      subst hid'
      rw [List.getElem?_append_right (by omega)] at h1
      rw [List.getElem?_append_right (by omega)] at h2
      simp [hlen] at h1 h2
      exact .inr ⟨rfl, h1.symm, h2.symm⟩
  refine ⟨H.glob, by simp [hlen], H.fresh, fun id C m h1 h2 => ?_, fun id C m h1 h2 h3 => ?_, fun id C m h1 h2 h3 => ?_, fun i j Bi Bj li lj h1 h2 h3 h4 h5 h6 h7 => ?_⟩
  · rcases at_ h1 h2 with ⟨k1, k2⟩ | ⟨_, rfl, rfl⟩
    · exact (H.blk id C m k1 k2).more [l]
    · exact hB
  · rcases at_ h1 h2 with ⟨k1, k2⟩ | ⟨_, rfl, rfl⟩
    · exact H.ours id C m k1 k2 h3
    · exact ho
  · rcases at_ h1 h2 with ⟨k1, k2⟩ | ⟨_, rfl, rfl⟩
    · exact H.lt id C m k1 k2 h3
    · exact hl
  · rcases at_ h1 h3 with ⟨a1, a2⟩ | ⟨rfl, rfl, rfl⟩ <;> rcases at_ h2 h4 with ⟨b1, b2⟩ | ⟨rfl, rfl, rfl⟩
    · exact H.sep i j Bi Bj li lj a1 b1 a2 b2 h5 h6 h7
    · have : Bi.solid = true := by cases Bi <;> simp_all [Blk.wrB, Blk.solid]
      exact Ne.symm (hs i Bi li a1 a2 this)
    · exact hs j Bj lj b1 b2 h7
    · exact absurd rfl h5
theorem HRel.take (H : HRel own ρ h w) (n : Nat) (hn : n ≤ h.length) (hr : ∀ (id : Nat) B l, id < n → h[id]? = some B → ρ[id]? = some l → BRel (ρ.take n) w l B) : HRel own (ρ.take n) (h.take n) w := by
  have at_ : ∀ {α : Type} {xs : List α} {i : Nat} {C : α}, (xs.take n)[i]? = some C → i < n ∧ xs[i]? = some C := by
    intro α xs i C hi
    have h1 : i < n := by
      have := (List.getElem?_eq_some_iff.1 hi).1
      simp at this; omega
    rw [List.getElem?_take_of_lt h1] at hi
    exact ⟨h1, hi⟩
  refine ⟨H.glob, by simp [H.len], H.fresh, fun i C m k1 k2 => ?_, fun i C m k1 k2 k3 => ?_, fun i C m k1 k2 k3 => ?_, fun i j Bi Bj li lj k1 k2 k3 k4 k5 k6 k7 => ?_⟩
  · exact hr i C m (at_ k1).1 (at_ k1).2 (at_ k2).2
  · exact H.ours i C m (at_ k1).2 (at_ k2).2 k3
  · exact H.lt i C m (at_ k1).2 (at_ k2).2 k3
  · exact H.sep i j Bi Bj li lj (at_ k1).2 (at_ k2).2 (at_ k3).2 (at_ k4).2 k5 k6 k7
end
end Go.Proofs.Ytnfbgfmdjaodgaa.Eng
