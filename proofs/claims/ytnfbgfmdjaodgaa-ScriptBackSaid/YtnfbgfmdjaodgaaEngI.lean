/- append, copy, texts that are gone through, calls. -/
import Derived.Test.YtnfbgfmdjaodgaaEngH
import Derived.Laws.Append
set_option linter.unusedVariables false
set_option linter.unusedSimpArgs false
namespace Go.Proofs.Ytnfbgfmdjaodgaa.Eng
open Go.RowKit

section
variable {P : Program} {own : Nat → Prop} {ρ : List Loc} {h : Hp} {w : World}

theorem lenOf_run {x : AV} {u : Value} {n : Nat} (hx : VRel ρ x u) (hl : srcLen x = some n) (w : World) : (Builtin.lenOf u).run P w = .ok n w := by
  unfold srcLen at hl
  split at hl
  · cases hl; cases hx; simp [Builtin.lenOf]
  · cases hl; obtain ⟨_, _, _, _, _, rfl, _⟩ := hx; simp [Builtin.lenOf]
  · cases hl; cases hx; simp [Builtin.lenOf]
  · cases hl
theorem firstCells_addr (esz n : Nat) (a : Addr) (l c : Nat) : Builtin.firstCells esz n (.slice (some a) l c) = loadCells a (n * esz) := rfl
theorem src_run (H : HRel own ρ h w) {x : AV} {u : Value} {esz n : Nat} {new : List AV} (hx : VRel ρ x u) (hc : srcCells h esz n x = some new) :
    ∃ vs : List Value, VRels ρ new vs ∧ vs.length = n * esz ∧ (∀ w' : World, w'.heap = w.heap → (Builtin.firstCells esz n u).run P w' = .ok vs.toArray w') := by
  unfold srcCells at hc
  split at hc
  · split at hc
    · rename_i h0
      cases hc; cases hx; subst h0
      exact ⟨[], rfl, by simp, fun w' _ => by simp [Builtin.firstCells]⟩
    · cases hc
  · rename_i id off len e cap
    split at hc
    · rename_i hcond
      obtain ⟨rfl, hn⟩ := hcond
      obtain ⟨⟨c, wr⟩, hcells, hc⟩ := Option.bind_eq_some_iff.1 hc
      split at hc
      · rename_i hle
        cases hc
        obtain ⟨l, a, hl, h0, h1, rfl, h2⟩ := hx
        obtain ⟨l', hl', hb⟩ := H.loc (hcells_some hcells)
        obtain rfl : l = l' := Option.some.inj (hl.symm.trans hl')
        obtain ⟨vs, k1, k2, k3⟩ := cells_at hb (n * e) off hle
        refine ⟨vs, k2, k1, fun w' hw' => ?_⟩
        rw [firstCells_addr]
        by_cases hz : n * e = 0
        · rw [hz] at k1 ⊢
          have : vs = [] := List.eq_nil_of_length_eq_zero k1
          subst this
          simp [loadCells, loadCellsFrom]
        · have hn0 : 0 < n := Nat.pos_of_ne_zero fun hn0 => hz (by rw [hn0, Nat.zero_mul])
          rw [h2 (by omega), ← k1]
          exact loadCells_at fun j v hv => by rw [cell_of_heap (w := w) (by rw [hw'])]; exact k3 j v hv
      · cases hc
    · cases hc
  · rename_i a
    split at hc
    · rename_i hcond
      obtain ⟨rfl, hn⟩ := hcond
      cases hc; cases hx
      refine ⟨_, bytes_rel _, ?_, fun w' _ => by simp only [Builtin.firstCells, Sem.run_pure, Array.toArray_toList]⟩
      simp; omega
    · cases hc
  · cases hc
theorem abyt_run {t : TypeId} {b : Nat} (hb : abyt P t = some b) : ∃ i, P.info? t = some i ∧ i.bytes = b := Option.map_eq_some_iff.1 hb
theorem zero_info {e : TypeId} {n : Nat} (hz : asz P e = some n) {i : TypeInfo} (hi : P.info? e = some i) : i.size = n := by
  simp [asz, hi] at hz; exact hz
theorem append_room {t u ty e : TypeId} {sz n : Nat} {base : Addr} {sLen sCap : Nat} {x : Value} {vs : List Value} {d : TypeDesc} (ht : P.underlying t = some (.slice e)) (hu : P.underlying u = some d) (hd : d = .string ∨ ∃ e', d = .slice e')
    (hsz : asz P e = some sz) (hlen : ∀ w, (Builtin.lenOf x).run P w = .ok n w) (hf : (Builtin.firstCells sz n x).run P w = .ok vs.toArray w) (hroom : sLen + n ≤ sCap) (w' : World)
    (hst : (storeCells (base.add (sLen * sz)) vs).run P w = .ok () w') :
    (Builtin.append_ #[t, u] ty #[.slice (some base) sLen sCap, x]).run P w = .ok (.slice (some base) (sLen + n) sCap) w' := by
  rcases hd with rfl | ⟨e', rfl⟩ <;> simp [Builtin.append_, run_underlying ht, run_underlying hu, asz_run hsz, hlen, hroom, hf, hst]
theorem append_none {t u ty e : TypeId} {sz : Nat} {x : Value} {d : TypeDesc} (ht : P.underlying t = some (.slice e)) (hu : P.underlying u = some d) (hd : d = .string ∨ ∃ e', d = .slice e')
    (hsz : asz P e = some sz) (hlen : ∀ w, (Builtin.lenOf x).run P w = .ok 0 w) (hf : (Builtin.firstCells sz 0 x).run P w = .ok #[] w) :
    (Builtin.append_ #[t, u] ty #[.slice none 0 0, x]).run P w = .ok (.slice none 0 0) w := by
  rcases hd with rfl | ⟨e', rfl⟩ <;> simp [Builtin.append_, run_underlying ht, run_underlying hu, asz_run hsz, hlen, hf]
theorem append_grows {t u ty e : TypeId} {sz n b : Nat} {s : Value} {base : Option Addr} {sLen sCap : Nat} {x : Value} {vs os : List Value} {d : TypeDesc} (ht : P.underlying t = some (.slice e)) (hu : P.underlying u = some d) (hd : d = .string ∨ ∃ e', d = .slice e')
    (hsz : asz P e = some sz) (hby : abyt P e = some b) {z : Value} (hzero : (P.info? e).bind (·.zero) = some z) (hlen : ∀ w, (Builtin.lenOf x).run P w = .ok n w)
    (hs : s = .slice base sLen sCap) (ho : (Builtin.firstCells sz sLen s).run P w.drew = .ok os.toArray w.drew) (hf : (Builtin.firstCells sz n x).run P w.drew = .ok vs.toArray w.drew)
    (hroom : ¬ sLen + n ≤ sCap) (hb : (sLen + n) * b ≤ 140737488355328) (hbs : 0 < b) :
    (Builtin.append_ #[t, u] ty #[s, x]).run P w =
      .ok (.slice (some ⟨w.heap.size, 0, none⟩) (sLen + n) (grownCap w (sLen + n) sCap e)) (w.drew.alloc (.cells (os.toArray ++ vs.toArray ++ Builtin.zeroCells z.cells (grownCap w (sLen + n) sCap e - (sLen + n))) e)) := by
  subst hs
  obtain ⟨i, hi, hib⟩ := abyt_run hby
  have hfit := growslice_fits (need := sLen + n) (old := sCap) (bytes := b) (by omega) hb
  have h63 : (sLen + n) ≤ 140737488355328 := Nat.le_trans (Nat.le_mul_of_pos_right _ hbs) hb
  have h63' : ¬ (9223372036854775807 < ((sLen : Int) + (n : Int))) := by omega
  have h48' : ¬ (281474976710656 < Builtin.nextslicecap (sLen + n) sCap * b) := by omega
  have hask : ∀ w' : World, (askRoom (grownCap w (sLen + n) sCap e * b)).run P w' = .ok () w' := fun w' => by
    unfold askRoom; split <;> rfl
  have hz := zero_run hzero
  rcases hd with rfl | ⟨e', rfl⟩
  all_goals
    simp [Builtin.append_, run_underlying ht, run_underlying hu, asz_run hsz, hlen, hroom, typeInfo, hi, hib, h63', h48', Question.forced]
    rw [ho]
    simp only [Result.andThen_ok]
    rw [hf]
    simp only [Result.andThen_ok]
    rw [hz]
    simp only [Result.andThen_ok, newRow, Sem.run_bind, run_newObj_alloc, Sem.run_pure]
    congr 3
    simp only [grownCap]
    rw [← Array.append_assoc]
    congr 1
    simp
theorem keeps_drew (own : Nat → Prop) (w : World) : Keeps own w w.drew := ⟨rfl, rfl, rfl, Nat.le_refl _, fun _ _ => rfl⟩
theorem grown_rel (H : HRel own ρ h w) {c : List AV} {vs : List Value} (hr : VRels ρ c vs) (e : TypeId) (rest : Array Value) :
    HRel own (ρ ++ [⟨w.heap.size, 0, (vs.toArray ++ rest).size⟩]) (h ++ [.cells c true]) (w.alloc (.cells (vs.toArray ++ rest) e)) := by
  have hl := hr.length
  refine new_rel H _ e (0, 0) ?_ (by simp; omega) (.inr rfl)
  rw [Array.toList_append, ← hl, List.take_left' (by simp)]
  simpa using hr
theorem zeroCells_size (z : Array Value) (n : Nat) : (Builtin.zeroCells z n).size = n * z.size := by simp [Builtin.zeroCells]
theorem grown_ge (w : World) (n old : Nat) (e : TypeId) : n ≤ grownCap w n old e := by simp only [grownCap, Question.cut]; omega
theorem sl_new (H : HRel own ρ h w) {n cap sz size : Nat} (hs : 0 < sz) (hc : n ≤ cap) (hsize : size = cap * sz) :
    VRel (ρ ++ [⟨w.heap.size, 0, size⟩]) (.sl h.length 0 n sz none) (.slice (some ⟨w.heap.size, 0, none⟩) n cap) := by
  have : capOf ⟨w.heap.size, 0, size⟩ 0 sz none = cap := by
    simp only [capOf, hsize, Nat.sub_zero]; exact Nat.mul_div_cancel _ hs
  exact ⟨_, _, last_loc H _, hs, by rw [this]; exact hc, by rw [this]; simp [Loc.at], fun _ => rfl⟩
theorem aelem_run {e : TypeId} {q : Nat × Nat} (hq : aelem P e = some q) : ∃ k b z, q = (k + 1, b + 1) ∧ asz P e = some (k + 1) ∧ abyt P e = some (b + 1) ∧ (P.info? e).bind (·.zero) = some z ∧ z.cells.size = k + 1 := by
  unfold aelem at hq
  split at hq
  · rename_i k b hk hb
    split at hq
    · rename_i hz
      cases hq
      obtain ⟨z, hz1, hz2⟩ := Option.map_eq_some_iff.1 hz
      exact ⟨k, b, z, rfl, hk, hb, hz1, hz2⟩
    · cases hq
  · cases hq
theorem aappend_eff (H : HRel own ρ h w) {t u : TypeId} (ty : TypeId) {s x r : AV} {sv xv : Value} {h' : Hp} {d : TypeDesc} (hu : P.underlying u = some d) (hd : d = .string ∨ ∃ e', d = .slice e')
    (hs : VRel ρ s sv) (hx : VRel ρ x xv) (hm : aappend P h t s x = some (r, h')) :
    EffOk own ρ w r h' ((Builtin.append_ #[t, u] ty #[sv, xv]).run P w |>.andThen fun v w' => .ok (.value v) w') := by
  unfold aappend at hm
  split at hm
  · rename_i e ht
    obtain ⟨sb, hsb, hm⟩ := Option.bind_eq_some_iff.1 hm
    obtain ⟨k, b, z, rfl, hk, hby, hz, hzs'⟩ := aelem_run hsb
    obtain ⟨n, hn, hm⟩ := Option.bind_eq_some_iff.1 hm
    obtain ⟨new, hnew, hm⟩ := Option.bind_eq_some_iff.1 hm
    simp only at hnew hm
    obtain ⟨vs, hvr, hvl, hvw⟩ := src_run (P := P) H hx hnew
    have hlen := fun w => lenOf_run (P := P) hx hn w
    have hnl := hvr.length
    have H' : HRel own ρ h w.drew := H.heap rfl
    split at hm
    · cases hs
      split at hm
      · rename_i h0
        cases hm
        subst h0
        have : vs = [] := List.eq_nil_of_length_eq_zero (by rw [hvl]; simp)
        subst this
        rw [append_none ht hu hd hk hlen (hvw w rfl)]
        exact ⟨[], _, w, .inl rfl, by simpa using H, rfl, Keeps.refl _ _⟩
      · rename_i h0
        split at hm
        · rename_i hb
          cases hm
          have hg := append_grows (ty := ty) (sLen := 0) (sCap := 0) (base := none) (s := .slice none 0 0) ht hu hd hk hby hz hlen rfl (os := []) (by simp [Builtin.firstCells]) (hvw w.drew rfl) (by omega) (by rw [Nat.zero_add]; exact hb) (by omega)
          rw [show (([] : List Value).toArray ++ vs.toArray) = vs.toArray from by simp, Nat.zero_add] at hg
          rw [hg]
          have hge := grown_ge w n 0 e
          refine ⟨[⟨w.drew.heap.size, 0, (vs.toArray ++ Builtin.zeroCells z.cells (grownCap w n 0 e - n)).size⟩], _, _, .inl rfl, grown_rel H' hvr e _, sl_new (w := w.drew) H' (by omega) hge ?_, (keeps_drew own w).trans (keeps_alloc H' _)⟩
          rw [Array.size_append, zeroCells_size, hzs', List.size_toArray, hvl, ← Nat.add_mul]
          congr 1
          omega
        · cases hm
    · rename_i id off len esz cap _ _ _
      obtain ⟨l, a, hl, he0, hle, rfl, hat⟩ := hs
      split at hm
      · rename_i hesz
        subst hesz
        split at hm
        · rename_i h0
          cases hm
          subst h0
          have : vs = [] := List.eq_nil_of_length_eq_zero (by rw [hvl]; simp)
          subst this
          rw [append_room ht hu hd hk hlen (hvw w rfl) (by omega) w (by simp [storeCells])]
          exact ⟨[], _, w, .inl rfl, by simpa using H, ⟨l, a, by simpa using hl, he0, hle, rfl, hat⟩, Keeps.refl _ _⟩
        · rename_i h0
          obtain ⟨⟨c, wr⟩, hc, hm⟩ := Option.bind_eq_some_iff.1 hm
          simp only at hm
          have hcell := hcells_some hc
          have hb := H.blk id _ l hcell hl
          -- a store into the row, where there is room
          have room : wr = true → off + (len + n) * (k + 1) ≤ c.length → new.all AV.one = true → len + n ≤ capOf l off (k + 1) cap → 
              EffOk own ρ w (.sl id off (len + n) (k + 1) cap) (h.set id (.cells (setAll c (off + len * (k + 1)) new) true)) ((Builtin.append_ #[t, u] ty #[.slice (some a) len (capOf l off (k + 1) cap), xv]).run P w |>.andThen fun v w' => .ok (.value v) w') := by
            intro hw hfit hone hcap
            subst hw
            have ha : a = l.at off := hat (by omega)
            subst ha
            have e1 : off + len * (k + 1) + new.length = off + (len + n) * (k + 1) := by rw [← hnl, hvl, Nat.add_mul]; omega
            obtain ⟨k1, k2⟩ := write_rel H hcell hl hvr (off := off + len * (k + 1)) (by omega)
            have hst := run_storeCells_cells (P := P) l.blk (l.off + (off + len * (k + 1))) vs 0 w (fun j hj => by
                have := (hb.2.2 rfl (off + len * (k + 1) + j) (by have := hb.1; omega)).1
                simp only [Loc.at] at this
                rw [Nat.add_zero, Nat.add_assoc]; exact this) (fun j hj => by
                have := (hb.2.2 rfl (off + len * (k + 1) + j) (by have := hb.1; omega)).2
                simp only [Loc.at] at this
                rw [Nat.add_zero, Nat.add_assoc]; exact this) (ones hvr hone)
            rw [Nat.add_zero] at hst
            rw [append_room ht hu hd hk hlen (hvw w rfl) hcap (w.setCells l.blk (l.off + (off + len * (k + 1))) vs) (by rw [add_at]; exact hst)]
            exact ⟨[], _, _, .inl rfl, by simpa using k1, ⟨l, _, by simpa using hl, he0, hcap, rfl, fun _ => rfl⟩, k2⟩
          -- a new row
          have grow : (len + n) * (b + 1) ≤ 140737488355328 → off + len * (k + 1) ≤ c.length → ¬ len + n ≤ capOf l off (k + 1) cap →
              ∃ os : List Value, VRels ρ ((c.drop off).take (len * (k + 1))) os ∧ os.length = len * (k + 1) ∧
              (Builtin.append_ #[t, u] ty #[.slice (some a) len (capOf l off (k + 1) cap), xv]).run P w = .ok (.slice (some ⟨w.heap.size, 0, none⟩) (len + n) (grownCap w (len + n) (capOf l off (k + 1) cap) e))
                (w.drew.alloc (.cells ((os ++ vs).toArray ++ Builtin.zeroCells z.cells (grownCap w (len + n) (capOf l off (k + 1) cap) e - (len + n))) e)) := by
            intro hbb hfit hcap
            obtain ⟨os, o1, o2, o3⟩ := cells_at hb (len * (k + 1)) off hfit
            refine ⟨os, o2, o1, ?_⟩
            have ho : (Builtin.firstCells (k + 1) len (.slice (some a) len (capOf l off (k + 1) cap))).run P w.drew = .ok os.toArray w.drew := by
              rw [firstCells_addr]
              by_cases hz0 : len = 0
              · subst hz0
                have : os = [] := List.eq_nil_of_length_eq_zero (by rw [o1]; simp)
                subst this
                simp [loadCells, loadCellsFrom]
              · rw [hat (by omega), ← o1]
                exact loadCells_at o3
            have hg := append_grows (ty := ty) (s := .slice (some a) len (capOf l off (k + 1) cap)) ht hu hd hk hby hz hlen rfl ho (hvw w.drew rfl) hcap hbb (by omega)
            rw [hg, show os.toArray ++ vs.toArray = (os ++ vs).toArray from by simp]
          have grown : ∀ os : List Value, os.length = len * (k + 1) → ∀ cp, len + n ≤ cp → ((os ++ vs).toArray ++ Builtin.zeroCells z.cells (cp - (len + n))).size = cp * (k + 1) := by
            intro os ho cp hcp
            rw [Array.size_append, zeroCells_size, hzs', List.size_toArray, List.length_append, ho, hvl, ← Nat.add_mul, ← Nat.add_mul]
            congr 1
            omega
          split at hm
          · rename_i hcond
            cases cap with
            | some cc =>
              simp only at hm
              split at hm
              · rename_i hcap
                split at hm
                · rename_i hc2
                  cases hm
                  exact room hc2.1 hc2.2.1 hc2.2.2 hcap
                · cases hm
              · rename_i hcap
                cases hm
                obtain ⟨os, o1, o2, o3⟩ := grow hcond.1 hcond.2 hcap
                rw [o3]
                have hge := grown_ge w (len + n) (capOf l off (k + 1) (some cc)) e
                exact ⟨[⟨w.drew.heap.size, 0, ((os ++ vs).toArray ++ Builtin.zeroCells z.cells (grownCap w (len + n) (capOf l off (k + 1) (some cc)) e - (len + n))).size⟩], _, _, .inl rfl, grown_rel H' (o1.append hvr) e _, sl_new (w := w.drew) H' (by omega) hge (grown os o2 _ hge), (keeps_drew own w).trans (keeps_alloc H' _)⟩
            | none =>
              simp only at hm
              split at hm
              · rename_i hc2
                split at hm
                · rename_i hfit
                  cases hm
                  refine room hc2.1 hfit hc2.2 ?_
                  simp only [capOf]
                  rw [Nat.le_div_iff_mul_le he0]
                  have := hb.1
                  omega
                · split at hm
                  · have htail : off + len * (k + 1) = c.length := by assumption
                    cases hm
                    obtain ⟨rfl, hone⟩ := hc2
                    have hlc := hb.1
                    by_cases hcap : len + n ≤ capOf l off (k + 1) none
                    · have ha : a = l.at off := hat (by omega)
                      subst ha
                      have hlcap : off + (len + n) * (k + 1) ≤ l.cap := by
                        simp only [capOf] at hcap
                        rw [Nat.le_div_iff_mul_le he0] at hcap
                        rw [Nat.add_mul] at hcap ⊢
                        have : 0 < n * (k + 1) := Nat.mul_pos (by omega) he0
                        omega
                      have e1 : off + len * (k + 1) + vs.length = off + (len + n) * (k + 1) := by rw [hvl, Nat.add_mul]; omega
                      have hst := run_storeCells_cells (P := P) l.blk (l.off + (off + len * (k + 1))) vs 0 w (fun j hj => by
                          have := (hb.2.2 rfl (off + len * (k + 1) + j) (by omega)).1
                          simp only [Loc.at] at this
                          rw [Nat.add_zero, Nat.add_assoc]; exact this) (fun j hj => by
                          have := (hb.2.2 rfl (off + len * (k + 1) + j) (by omega)).2
                          simp only [Loc.at] at this
                          rw [Nat.add_zero, Nat.add_assoc]; exact this) (ones hvr hone)
                      rw [Nat.add_zero] at hst
                      rw [append_room ht hu hd hk hlen (hvw w rfl) hcap (w.setCells l.blk (l.off + (off + len * (k + 1))) vs) (by rw [add_at]; exact hst)]
                      have hthere : ∀ j, j < l.cap → ((w.setCells l.blk (l.off + (off + len * (k + 1))) vs).cell? (l.at j)).isSome = true ∧ (w.setCells l.blk (l.off + (off + len * (k + 1))) vs).frozen? (l.at j) = false := fun j hj =>
                        ⟨World.isSome_setCells _ _ _ _ _ (hb.2.2 rfl j hj).1, by rw [World.frozen?_setCells]; exact (hb.2.2 rfl j hj).2⟩
                      have K1 : HRel own ρ (h.set id .dead) (w.setCells l.blk (l.off + (off + len * (k + 1))) vs) := by
                        have := (H.upd (B' := .cells [] true) hcell hl rfl (size_setCells _ _ _ _) (fun b hb' => heap_setCells_ne _ _ _ _ b hb') ⟨Nat.zero_le _, fun j a hj => by simp at hj, fun _ => hthere⟩).kill id
                        rwa [List.set_set] at this
                      have hsep : ∀ (j : Nat) Bj lj, (h.set id .dead)[j]? = some Bj → ρ[j]? = some lj → Bj.solid = true → l.blk ≠ lj.blk := fun j Bj lj hj hlj hs => by
                        by_cases hji : j = id
                        · subst hji
                          rw [List.getElem?_set_self (List.getElem?_eq_some_iff.1 hcell).1] at hj
                          cases hj; cases hs
                        · rw [List.getElem?_set_ne (Ne.symm hji)] at hj
                          exact H.sep id j _ Bj l lj hcell hj hl hlj (Ne.symm hji) rfl hs
                      have K2 := K1.adopt (l := ⟨l.blk, l.off + off, l.cap - off⟩) (B := .cells (c.drop off ++ new) true) (H.ours id _ l hcell hl rfl) (by
                          rw [size_setCells]; exact H.lt id _ l hcell hl rfl) hsep ⟨by rw [List.length_append, List.length_drop]; show _ ≤ l.cap - off; omega, fun j x hj => by
                        by_cases hjc : j < (c.drop off).length
                        · rw [List.getElem?_append_left hjc, List.getElem?_drop] at hj
                          obtain ⟨v, hv, hvr'⟩ := hb.2.1 (off + j) x hj
                          rw [List.length_drop] at hjc
                          refine ⟨v, ?_, hvr'.more _⟩
                          rw [World.cell?_setCells_out l.blk vs _ w _ (fun _ _ => by simp only [Loc.at]; omega)]
                          simp only [Loc.at] at hv ⊢
                          rw [Nat.add_assoc]; exact hv
                        · rw [List.getElem?_append_right (by omega)] at hj
                          rw [List.length_drop] at hjc hj
                          obtain ⟨v, hv, hvr'⟩ := hvr.get _ hj
                          have hjn : j - (c.length - off) < vs.length := (List.getElem?_eq_some_iff.1 hv).1
                          refine ⟨v, ?_, hvr'.more _⟩
                          have hin := World.cell?_setCells_in l.blk vs (l.off + (off + len * (k + 1))) w (fun q hq => by
                            have := (hb.2.2 rfl (off + len * (k + 1) + q) (by omega)).1
                            simp only [Loc.at] at this
                            rw [Nat.add_assoc]; exact this) _ hjn
                          have e2 : l.off + (off + len * (k + 1)) + (j - (c.length - off)) = l.off + off + j := by omega
                          rw [e2] at hin
                          simp only [Loc.at]
                          rw [hin, ← hv, List.getElem?_eq_getElem hjn], fun _ j hj => by
                        have := hthere (off + j) (by simp only at hj; omega)
                        simp only [Loc.at] at this ⊢
                        rw [Nat.add_assoc]; exact this⟩
                      refine ⟨[⟨l.blk, l.off + off, l.cap - off⟩], _, _, .inl rfl, K2, ⟨⟨l.blk, l.off + off, l.cap - off⟩, _, by have := last_loc K1 ⟨l.blk, l.off + off, l.cap - off⟩; rwa [List.length_set] at this, he0, ?_, ?_, fun _ => rfl⟩, ⟨World.os_setCells _ _ _ _, tape_setCells _ _ _ _, World.output_setCells _ _ _ _, by rw [size_setCells]; exact Nat.le_refl _, fun b hb' => heap_setCells_ne _ _ _ _ b (fun e => hb' (e ▸ H.ours id _ l hcell hl rfl))⟩⟩
                      · simpa [capOf] using hcap
                      · simp [capOf, Loc.at]
                    · obtain ⟨os, o1, o2, o3⟩ := grow hcond.1 hcond.2 hcap
                      rw [o3]
                      have hge := grown_ge w (len + n) (capOf l off (k + 1) none) e
                      have HK := H'.kill id
                      have e3 : (c.drop off).take (len * (k + 1)) = c.drop off := List.take_of_length_le (by rw [List.length_drop]; omega)
                      rw [e3] at o1
                      have hsn := sl_new (w := w.drew) HK (n := len + n) (sz := k + 1) (by omega) hge (grown os o2 _ hge)
                      rw [List.length_set] at hsn
                      exact ⟨[⟨w.drew.heap.size, 0, ((os ++ vs).toArray ++ Builtin.zeroCells z.cells (grownCap w (len + n) (capOf l off (k + 1) none) e - (len + n))).size⟩], _, _, .inl rfl, grown_rel HK (o1.append hvr) e _, hsn, (keeps_drew own w).trans (keeps_alloc H' _)⟩
                  · cases hm
              · cases hm
          · cases hm
      · cases hm
    · cases hm
  · cases hm
end
end Go.Proofs.Ytnfbgfmdjaodgaa.Eng
