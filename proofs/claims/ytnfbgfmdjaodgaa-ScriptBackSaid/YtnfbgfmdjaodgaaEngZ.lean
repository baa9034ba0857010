/- A law's arguments: lists of records in memory. -/
import Derived.Test.YtnfbgfmdjaodgaaEngY
import Derived.Test.YtnfbgfmdjaodgaaEngV
import Derived.Deep.Slices
import Derived.Deep.Strs
set_option linter.unusedVariables false
set_option linter.unusedSimpArgs false
namespace Go.Proofs.Ytnfbgfmdjaodgaa.Eng
open Go.RowKit Go.ChangeShapes Go.WideShapes Go.Joins

structure InRecs (w : World) (v : Value) (c : List AV) (len n cap : Nat) (l : Loc) : Prop where
  row : ∀ ρ, BRel ρ w l (.cells c false)
  lt : (Blk.cells c false).solid = true → l.blk < w.heap.size ∧ ¬ (w.heap.size ≤ l.blk)
  val : ∀ (ρ : List Loc) (id : Nat), ρ[id]? = some l → VRel ρ (.sl id 0 len n (some cap)) v
  le : len ≤ cap
theorem VRels.cell {ρ : List Loc} {as : List AV} {vs : List Value} (h : VRels ρ as vs) {j : Nat} {a : AV} (e : as[j]? = some a) : ∃ v, vs[j]? = some v ∧ VRel ρ a v := h.get j e
theorem recs_cell {α : Type} {mk : α → List AV} {n : Nat} (hn : ∀ x, (mk x).length = n) (h0 : 0 < n) {l : List α} {j : Nat} {a : AV} (h : (recs mk l)[j]? = some a) : ∃ x, l[j / n]? = some x ∧ (mk x)[j % n]? = some a := by
  have hj := (List.getElem?_eq_some_iff.1 h).1
  rw [recs_length hn] at hj
  have hi : j / n < l.length := (Nat.div_lt_iff_lt_mul h0).2 hj
  refine ⟨l[j / n], List.getElem?_eq_getElem hi, ?_⟩
  have := recs_at hn (List.getElem?_eq_getElem hi)
  rw [← this, List.getElem?_take_of_lt (Nat.mod_lt _ h0), List.getElem?_drop]
  have e : j / n * n + j % n = j := by rw [Nat.mul_comm]; exact Nat.div_add_mod j n
  rw [e]; exact h
section
variable {H : Type} {enc : TypeId × Value → H} {P : Program} {w : World}
theorem choose_list {α : Type} {p : Nat → α → Prop} : ∀ (n : Nat), (∀ i, i < n → ∃ x, p i x) → ∃ l : List α, l.length = n ∧ ∀ i x, l[i]? = some x → p i x
  | 0, _ => ⟨[], rfl, fun i x h => by simp at h⟩
  | n + 1, h => by
    obtain ⟨l, hl, hp⟩ := choose_list n fun i hi => h i (by omega)
    obtain ⟨x, hx⟩ := h n (by omega)
    refine ⟨l ++ [x], by simp [hl], fun i y hy => ?_⟩
    by_cases hi : i < l.length
    · rw [List.getElem?_append_left hi] at hy; exact hp i y hy
    · have hlt := (List.getElem?_eq_some_iff.1 hy).1
      simp at hlt
      have : i = n := by omega
      subst this
      rw [List.getElem?_append_right (by omega), hl] at hy
      simp at hy
      subst hy; exact hx
theorem plus_at {b off n j : Nat} {sp : Option Nat} (h : 0 < n → sp = none) (hj : 0 < n) : (⟨b, off, sp⟩ : Addr).add j = ⟨b, off + j, none⟩ := by
  unfold Addr.add
  split
  · rename_i e; subst e; rw [h hj]; rfl
  · rfl
theorem add_add (a : Addr) (i j : Nat) : (a.add i).add j = a.add (i + j) := by
  unfold Addr.add
  by_cases hi : i = 0 <;> by_cases hj : j = 0 <;> simp [hi, hj, Nat.add_assoc]
theorem arg_recs {α : Type} {mk : α → List AV} {un : α → List Value} {okx : α → Prop} {n : Nat} (hn : ∀ x, (mk x).length = n) (h0 : 0 < n) (hu : ∀ x, (un x).length = n) (hmk : ∀ ρ x, VRels ρ (mk x) (un x)) {r : Reach} {b0 : Nat} {t e : TypeId} {v : Value} {d : DataW H} {ps : List MemPlace}
    (ht : P.underlying t = some (.slice e)) (hc : P.cellsOf e = n) (hel : ∀ (fuel : Nat) (cs : List Value) (y : DataW H × List MemPlace), DataW.trod enc P w 0 (fun _ => true) true fuel e cs = some y → ∃ x, cs = un x ∧ okx x) (hval : Value.okWide P w r b0 t v)
    (hd : DataW.Trod enc P w 0 (fun _ => true) true t v d ps) : v = .slice none 0 0 ∨ ∃ (len : Nat) (xs : List α) (l : Loc), InRecs w v (recs mk xs) len n xs.length l ∧ (∀ x ∈ xs, okx x) ∧ xs.length ≤ maxLen := by
  obtain ⟨a, len, cap, rfl⟩ := okWide_slice ht hval
  obtain ⟨fuel, hf⟩ := hd
  rcases Go.Deep.open_slice ht hf with ⟨hcs, hx⟩ | ⟨a', len', cap', m, fn, D, Pl, hcs, _, hl, hm, hmm, hx, hel'⟩
  · simp [Value.cells] at hcs
    obtain ⟨rfl, rfl, rfl⟩ := hcs
    exact .inl rfl
  · simp [Value.cells] at hcs
    obtain ⟨rfl, rfl, rfl⟩ := hcs
    simp only [if_true] at hmm
    subst hmm
    rw [hc] at hel'
    obtain ⟨xs, hxl, hxs⟩ := choose_list (p := fun i x => w.cells? 0 (a'.add (i * n)) n = some (un x) ∧ okx x) m fun i hi => by
      obtain ⟨cs', h1, h2⟩ := hel' i hi
      obtain ⟨x, rfl, hk⟩ := hel _ _ _ h2
      exact ⟨x, h1, hk⟩
    obtain ⟨b, off, sp⟩ := a'
    have cell : ∀ i x j u, xs[i]? = some x → (un x)[j]? = some u → w.cell? ((⟨b, off, sp⟩ : Addr).add (i * n + j)) = some u := by
      intro i x j u h1 h2
      have h3 := (World.cells?_some (hxs i x h1).1).2.2 j (by have := (List.getElem?_eq_some_iff.1 h2).1; rw [hu] at this; exact this)
      rw [← add_add, h3, h2]
    have first : 0 < m → sp = none ∧ b < w.heap.size := by
      intro hm0
      obtain ⟨x0, hx0⟩ : ∃ x0, xs[0]? = some x0 := ⟨xs[0]'(by omega), List.getElem?_eq_getElem (by omega)⟩
      obtain ⟨u, hu0⟩ : ∃ u, (un x0)[0]? = some u := ⟨_, List.getElem?_eq_getElem (by rw [hu]; exact h0)⟩
      have h1 := cell 0 x0 0 u hx0 hu0
      simp only [Nat.zero_mul, Nat.add_zero] at h1
      exact ⟨by simpa [Addr.add] using World.cell?_spot h1, cell_in h1⟩
    refine .inr ⟨len, xs, ⟨b, off, m * n⟩, ⟨fun ρ => ⟨by rw [recs_length hn, hxl]; exact Nat.le_refl _, fun j a hj => ?_, fun h => by cases h⟩, fun hs => ?_, fun ρ id hid => ⟨⟨b, off, m * n⟩, ⟨b, off, sp⟩, hid, h0, ?_, ?_, fun h1 => ?_⟩, by rw [hxl]; exact hl⟩, fun x hx => ?_, by rw [hxl]; exact hm⟩
    · obtain ⟨x, h1, h2⟩ := recs_cell hn h0 hj
      obtain ⟨u, h3, h4⟩ := (hmk ρ x).get _ h2
      have hi := (List.getElem?_eq_some_iff.1 h1).1
      have h5 := cell _ x _ u h1 h3
      have e : j / n * n + j % n = j := by rw [Nat.mul_comm]; exact Nat.div_add_mod j n
      rw [e] at h5
      refine ⟨u, ?_, h4⟩
      rw [← h5]
      congr 1
      exact (plus_at (n := m) (fun h => (first h).1) (Nat.lt_of_le_of_lt (Nat.zero_le _) (hxl ▸ hi))).symm
    · have : 0 < m := by
        rw [← hxl]
        cases xs with
        | nil => simp [recs, Blk.solid] at hs
        | cons x xs => simp
      have := (first this).2
      simp only
      omega
    · simp only [capOf]; rw [hxl]; exact hl
    · simp only [capOf]; rw [hxl]
    · simp only [capOf, hxl] at h1
      have hs := (first h1).1
      subst hs
      rfl
    · obtain ⟨i, hi⟩ := List.getElem?_of_mem hx
      exact (hxs i x hi).2
theorem InRecs.two {v v' : Value} {c c' : List AV} {len n cap len' n' cap' : Nat} {l l' : Loc} (h : InRecs w v c len n cap l) (h' : InRecs w v' c' len' n' cap' l') (hG : Glob (w.heap.size ≤ ·) w := by exact Glob.nil rfl trivial) : HRel (w.heap.size ≤ ·) [l, l'] [.cells c false, .cells c' false] w :=
  ((HRel.none w hG).addLocked (l := l) (B := .cells c false) rfl h.lt (h.row _)).addLocked (l := l') (B := .cells c' false) rfl h'.lt (h'.row _)
theorem InRecs.one {v : Value} {c : List AV} {len n cap : Nat} {l : Loc} (h : InRecs w v c len n cap l) (hG : Glob (w.heap.size ≤ ·) w := by exact Glob.nil rfl trivial) : HRel (w.heap.size ≤ ·) [l] [.cells c false] w :=
  (HRel.none w hG).addLocked (l := l) (B := .cells c false) rfl h.lt (h.row _)
end
end Go.Proofs.Ytnfbgfmdjaodgaa.Eng
