/- A law's arguments: lists in memory, as rows that are only read. -/
import Derived.Test.YtnfbgfmdjaodgaaEngU
import Derived.SliceStrings
import Derived.ChangeOld
import Derived.Carry
import Derived.OpenShut
import Derived.Lib.SmallJoins
set_option linter.unusedVariables false
set_option linter.unusedSimpArgs false
namespace Go.Proofs.Ytnfbgfmdjaodgaa.Eng
open Go.RowKit Go.ChangeShapes Go.WideShapes Go.Joins

theorem cell_in {w : World} {a : Addr} {v : Value} (h : w.cell? a = some v) : a.block < w.heap.size := by
  unfold World.cell? at h
  cases hb : w.heap[a.block]? with
  | none => simp [hb] at h
  | some o => exact (Array.getElem?_eq_some_iff.1 hb).1
theorem HRel.addLocked {own : Nat → Prop} {ρ : List Loc} {h : Hp} {w : World} (H : HRel own ρ h w) {l : Loc} {B : Blk} (hw : B.wrB = false) (hl : B.solid = true → l.blk < w.heap.size ∧ ¬ own l.blk) (hB : BRel (ρ ++ [l]) w l B) : HRel own (ρ ++ [l]) (h ++ [B]) w := by
  have hlen := H.len
  have at_ : ∀ {id : Nat} {C : Blk} {m : Loc}, (h ++ [B])[id]? = some C → (ρ ++ [l])[id]? = some m → (h[id]? = some C ∧ ρ[id]? = some m) ∨ (id = h.length ∧ C = B ∧ m = l) := by
    intro id C m h1 h2
    by_cases hid : id < h.length
    · rw [List.getElem?_append_left hid] at h1
      rw [List.getElem?_append_left (by omega)] at h2
      exact .inl ⟨h1, h2⟩
    · have hid' : id = h.length := by
        have := (List.getElem?_eq_some_iff.1 h1).1
        simp at this; omega
      subst hid'
      rw [List.getElem?_append_right (by omega)] at h1
      rw [List.getElem?_append_right (by omega)] at h2
      simp [hlen] at h1 h2
      exact .inr ⟨rfl, h1.symm, h2.symm⟩
  refine ⟨H.glob, by simp [hlen], H.fresh, fun id C m h1 h2 => ?_, fun id C m h1 h2 h3 => ?_, fun id C m h1 h2 h3 => ?_, fun i j Bi Bj li lj h1 h2 h3 h4 h5 h6 h7 => ?_⟩
  · rcases at_ h1 h2 with ⟨k1, k2⟩ | ⟨_, rfl, rfl⟩
    · exact (H.blk id C m k1 k2).more [l]
    · exact hB
  · rcases at_ h1 h2 with ⟨k1, k2⟩ | ⟨_, rfl, rfl⟩
    · exact H.ours id C m k1 k2 h3
    · rw [hw] at h3; cases h3
  · rcases at_ h1 h2 with ⟨k1, k2⟩ | ⟨_, rfl, rfl⟩
    · exact H.lt id C m k1 k2 h3
    · exact (hl h3).1
  · rcases at_ h1 h3 with ⟨a1, a2⟩ | ⟨rfl, rfl, rfl⟩ <;> rcases at_ h2 h4 with ⟨b1, b2⟩ | ⟨rfl, rfl, rfl⟩
    · exact H.sep i j Bi Bj li lj a1 b1 a2 b2 h5 h6 h7
    · intro e
      have := H.ours i Bi li a1 a2 h6
      rw [e] at this
      exact (hl h7).2 this
    · rw [hw] at h6; cases h6
    · exact absurd rfl h5
structure InRow (w : World) (v : Value) (c : List AV) (len : Nat) (l : Loc) : Prop where
  row : ∀ ρ, BRel ρ w l (.cells c false)
  lt : (Blk.cells c false).solid = true → l.blk < w.heap.size ∧ ¬ (w.heap.size ≤ l.blk)
  val : ∀ (ρ : List Loc) (id : Nat), ρ[id]? = some l → VRel ρ (.sl id 0 len 1 (some c.length)) v
  le : len ≤ c.length
theorem in_row {w : World} {α : Type} {mk : α → AV} {un : α → Value} (hmk : ∀ ρ x, VRel ρ (mk x) (un x)) {a : Addr} {len cap : Nat} {xs : List α} (hl : len ≤ cap) (hz : xs.length = cap) (hcell : ∀ (i : Nat) x, xs[i]? = some x → w.cell? (a.add i) = some (un x)) :
    ∃ l, InRow w (.slice (some a) len cap) (xs.map mk) len l := by
  have spot : 0 < cap → a.spot = none ∧ a.block < w.heap.size := by
    intro h0
    obtain ⟨x, hx⟩ : ∃ x, xs[0]? = some x := ⟨xs[0]'(by omega), List.getElem?_eq_getElem (by omega)⟩
    have h1 := hcell 0 x hx
    exact ⟨by simpa [Addr.add] using World.cell?_spot h1, cell_in h1⟩
  obtain ⟨b, off, sp⟩ := a
  refine ⟨⟨b, off, cap⟩, ⟨fun ρ => ⟨by simp [hz], fun j v hj => ?_, fun h => by cases h⟩, fun hs => ?_, fun ρ id hid => ⟨⟨b, off, cap⟩, ⟨b, off, sp⟩, hid, Nat.one_pos, by simpa [capOf, hz] using hl, by simp [capOf, hz], fun h0 => ?_⟩, by simpa [hz] using hl⟩⟩
  · rw [List.getElem?_map, Option.map_eq_some_iff] at hj
    obtain ⟨x, hx, rfl⟩ := hj
    have hj' := (List.getElem?_eq_some_iff.1 hx).1
    have := hcell j x hx
    obtain ⟨hsp, _⟩ := spot (by omega)
    simp only at hsp
    subst hsp
    refine ⟨_, ?_, hmk ρ x⟩
    rw [← this]
    congr 1
    cases j <;> simp [Addr.add, Loc.at]
  · have : 0 < cap := by
      simp only [Blk.solid, Bool.false_or, Bool.not_eq_true', List.isEmpty_eq_false_iff, ne_eq] at hs
      cases xs with
      | nil => simp at hs
      | cons x xs => simp at hz; omega
    have := (spot this).2
    simp only at this ⊢
    omega
  · simp only [capOf, List.length_map, hz] at h0
    obtain ⟨hsp, _⟩ := spot h0
    simp only at hsp
    subst hsp
    rfl
section
variable {H : Type} {enc : TypeId × Value → H} {P : Program} {w : World}
theorem arg_strings {r : Reach} {b0 : Nat} {t e : TypeId} {v : Value} {d : DataW H} {ps : List MemPlace} (ht : P.underlying t = some (.slice e)) (he : P.underlying e = some .string) (hc : P.cellsOf e = 1) (hval : Value.okWide P w r b0 t v)
    (hd : DataW.Trod enc P w 0 (fun _ => true) true t v d ps) : v = .slice none 0 0 ∨ ∃ (len : Nat) (ss : List ByteArray) (l : Loc), InRow w v (ss.map .s) len l ∧ (∀ s ∈ ss, s.size ≤ maxLen) ∧ ss.length ≤ maxLen := by
  obtain ⟨a, len, cap, rfl⟩ := okWide_slice ht hval
  obtain ⟨fuel, hf⟩ := hd
  rcases open_strings ht he hc hf with ⟨hcs, hx⟩ | ⟨a, len', cap', ss, hcs, _, hl, hm, hz, hx, hcell, hws⟩
  · simp [Value.cells] at hcs
    obtain ⟨rfl, rfl, rfl⟩ := hcs
    exact .inl rfl
  · simp [Value.cells] at hcs
    obtain ⟨rfl, rfl, rfl⟩ := hcs
    simp only [if_true] at hz
    obtain ⟨l, hl'⟩ := in_row (w := w) (mk := AV.s) (un := Value.string) (fun _ _ => rfl) (xs := ss) hl hz (fun i x hx => by
      have hi := (List.getElem?_eq_some_iff.1 hx).1
      have := hcell i hi
      rw [List.getD_eq_getElem?_getD, hx] at this
      exact this)
    exact .inr ⟨len, ss, l, hl', hws, by omega⟩
theorem arg_ints {r : Reach} {b0 : Nat} {t e : TypeId} {k : IntKind} {v : Value} {d : DataW H} {ps : List MemPlace} (ht : P.underlying t = some (.slice e)) (he : P.underlying e = some (.int k)) (hc : P.cellsOf e = 1) (hval : Value.okWide P w r b0 t v)
    (hd : DataW.Trod enc P w 0 (fun _ => true) true t v d ps) : v = .slice none 0 0 ∨ ∃ (len : Nat) (zs : List Int) (l : Loc), InRow w v (zs.map (.i k)) len l ∧ (∀ n ∈ zs, (Lit.int k n).wf = true) ∧ zs.length ≤ maxLen := by
  obtain ⟨a, len, cap, rfl⟩ := okWide_slice ht hval
  obtain ⟨fuel, hf⟩ := hd
  rcases open_ints ht he hc hf with ⟨hcs, hx⟩ | ⟨a, len', cap', ss, hcs, _, hl, hm, hz, hx, hcell, hws⟩
  · simp [Value.cells] at hcs
    obtain ⟨rfl, rfl, rfl⟩ := hcs
    exact .inl rfl
  · simp [Value.cells] at hcs
    obtain ⟨rfl, rfl, rfl⟩ := hcs
    simp only [if_true] at hz
    obtain ⟨l, hl'⟩ := in_row (w := w) (mk := AV.i k) (un := Value.int k) (fun _ _ => rfl) (xs := ss) hl hz (fun i x hx => by
      have hi := (List.getElem?_eq_some_iff.1 hx).1
      have := hcell i hi
      rw [List.getD_eq_getElem?_getD, hx] at this
      exact this)
    exact .inr ⟨len, ss, l, hl', hws, by omega⟩
def numV : Value → Int
  | .int _ n => n
  | _ => 0
theorem okWide_array {n : Nat} {e : TypeId} {t : TypeId} {r : Reach} {b0 : Nat} {v : Value} (ht : P.underlying t = some (.array n e)) (h : Value.okWide P w r b0 t v) : ∃ cs, v = .agg cs := by
  simp only [Value.okWide, ht] at h
  cases v <;> simp_all
theorem arg_array {r : Reach} {b0 : Nat} {t e : TypeId} {n : Nat} {k : IntKind} {v : Value} {d : DataW H} {ps : List MemPlace} (ht : P.underlying t = some (.array n e)) (he : P.underlying e = some (.int k)) (hc : P.cellsOf e = 1) (hn : P.cellsOf t = n)
    (hval : Value.okWide P w r b0 t v) (hd : DataW.Trod enc P w 0 (fun _ => true) true t v d ps) : ∃ l : List Int, l.length = n ∧ v = .agg (l.map (Value.int k)).toArray ∧ ∀ x ∈ l, (Lit.int k x).wf = true := by
  obtain ⟨cs, rfl⟩ := okWide_array ht hval
  obtain ⟨fuel, hf⟩ := hd
  obtain ⟨xs, m, _, _, hlen, hxs, hel⟩ := DataW.trod_array ht hf
  have hcl : (Value.agg cs).cells.toList = cs.toList := by simp [Value.cells]
  rw [hcl] at hlen hel
  rw [hn] at hlen
  have each : ∀ i, i < n → ∃ z, cs.toList[i]? = some (.int k z) ∧ (Lit.int k z).wf = true := by
    intro i hi
    have h1 := hel i hi
    rw [hc, Nat.mul_one] at h1
    obtain ⟨y, hy⟩ : ∃ y, xs[i]? = some y := ⟨xs[i]'(by omega), List.getElem?_eq_getElem (by omega)⟩
    rw [hy] at h1
    obtain ⟨z, h2, _, h3⟩ := DataW.trod_int he h1
    refine ⟨z, ?_, h3⟩
    have h4 : ((cs.toList.drop i).take 1)[0]? = some (.int k z) := by rw [h2]; rfl
    rw [List.getElem?_take_of_lt (by omega), List.getElem?_drop] at h4
    exact h4
  refine ⟨cs.toList.map numV, by rw [List.length_map, hlen], ?_, fun x hx => ?_⟩
  · congr 1
    apply Array.toList_inj.1
    rw [List.map_map]
    apply List.ext_getElem?
    intro i
    rw [List.toList_toArray, List.getElem?_map]
    by_cases hi : i < n
    · obtain ⟨z, hz, _⟩ := each i hi
      rw [hz]; rfl
    · rw [List.getElem?_eq_none (by omega)]; rfl
  · obtain ⟨v, hv, rfl⟩ := List.mem_map.1 hx
    obtain ⟨i, hi⟩ := List.getElem?_of_mem hv
    have hil := (List.getElem?_eq_some_iff.1 hi).1
    obtain ⟨z, hz, hw⟩ := each i (by omega)
    rw [hi] at hz
    cases hz
    exact hw
theorem arg_msg {r : Reach} {b0 : Nat} {t : TypeId} {f0 f1 f2 f3 : Field} {v : Value} {d : DataW H} {ps : List MemPlace} (hs : P.underlying t = some (.struct #[f0, f1, f2, f3])) (hone : Go.Deep.oneCellFields P #[f0, f1, f2, f3] = true) (hC : P.cellsOf t = 4)
    (u0 : P.underlying f0.type = some (.int .i64)) (u1 : P.underlying f1.type = some (.int .i64)) (u2 : P.underlying f2.type = some (.int .u32)) (u3 : P.underlying f3.type = some .string)
    (hval : Value.okWide P w r b0 t v) (hd : DataW.Trod enc P w 0 (fun _ => true) true t v d ps) : ∃ (k c x : Int) (s : ByteArray), v = .agg #[.int .i64 k, .int .i64 c, .int .u32 x, .string s] ∧ (Lit.int .i64 k).wf = true ∧ (Lit.int .i64 c).wf = true ∧ (Lit.int .u32 x).wf = true ∧ s.size ≤ maxLen := by
  obtain ⟨v0, v1, v2, v3, y0, y1, y2, y3, n, rfl, _, _, h0, h1, h2, h3⟩ := Go.Joins.open_agg4 hs hone hC hval hd
  obtain ⟨k, e0, _, w0⟩ := DataW.trod_int u0 h0
  obtain ⟨c, e1, _, w1⟩ := DataW.trod_int u1 h1
  obtain ⟨x, e2, _, w2⟩ := DataW.trod_int u2 h2
  obtain ⟨s, e3, _, w3⟩ := DataW.trod_string u3 h3
  simp only [List.cons.injEq, and_true] at e0 e1 e2 e3
  subst e0 e1 e2 e3
  exact ⟨k, c, x, s, rfl, w0, w1, w2, w3⟩
theorem ints_rel {ρ : List Loc} (k : IntKind) : ∀ (l : List Int), VRels ρ (l.map (.i k)) (l.map (Value.int k))
  | [] => rfl
  | x :: r => ⟨_, _, rfl, rfl, ints_rel k r⟩
theorem InRow.one {v : Value} {c : List AV} {len : Nat} {l : Loc} (h : InRow w v c len l) (hG : Glob (w.heap.size ≤ ·) w := by exact Glob.nil rfl trivial) : HRel (w.heap.size ≤ ·) [l] [.cells c false] w :=
  (HRel.none w hG).addLocked (l := l) (B := .cells c false) rfl h.lt (h.row _)
end
end Go.Proofs.Ytnfbgfmdjaodgaa.Eng
