/- Functions that write rows of their callers: by their run over these rows alone. -/
import Derived.Test.YtnfbgfmdjaodgaaEngU
set_option linter.unusedVariables false
set_option linter.unusedSimpArgs false
namespace Go.Proofs.Ytnfbgfmdjaodgaa.Eng
open Go.RowKit

def putRows : List Nat → Hp → Hp → Hp
  | [], _, h => h
  | _, [], h => h
  | j :: J, B :: R, h => putRows J R (h.set j B)
theorem putRows_length : ∀ (J : List Nat) (R h : Hp), (putRows J R h).length = h.length
  | [], R, h => by cases R <;> rfl
  | j :: J, [], h => rfl
  | j :: J, B :: R, h => by rw [putRows, putRows_length J R]; simp
theorem posOf_none {J : List Nat} {id : Nat} (h : id ∉ J) : posOf J id = none := by
  induction J with
  | nil => rfl
  | cons j J ih =>
    have h1 : ¬ j = id := fun e => h (by simp [e])
    have h2 : id ∉ J := fun e => h (by simp [e])
    simp [posOf, h1, ih h2]
theorem putRows_get : ∀ {J : List Nat} {R h : Hp} {id : Nat}, J.Nodup → R.length = J.length → (∀ j ∈ J, j < h.length) → (putRows J R h)[id]? = match posOf J id with
    | some k => R[k]?
    | none => h[id]?
  | [], R, h, id, _, _, _ => by cases R <;> rfl
  | j :: J, [], h, id, _, hl, _ => by simp at hl
  | j :: J, B :: R, h, id, hn, hl, hj => by
    have hn' := List.nodup_cons.1 hn
    rw [putRows, putRows_get hn'.2 (by simpa using hl) (fun i hi => by simpa using hj i (by simp [hi]))]
    by_cases e : j = id
    · subst e
      rw [posOf_none hn'.1]
      simp only [posOf, if_true]
      rw [List.getElem?_set_self (hj j (by simp))]; rfl
    · simp only [posOf, if_neg e]
      cases hp : posOf J id with
      | none => simp only [Option.map_none]; rw [List.getElem?_set_ne e]
      | some k => simp
section
variable {P : Program} {T : TEnv} {W : Nat → Option Road} {Γ : Env}
def keepOk : Hp → Hp → Bool
  | [], [] => true
  | B :: r, B' :: r' => (!B'.wrB || B.wrB) && (!B'.solid || B.solid) && keepOk r r'
  | _, _ => false
theorem keepOk_len : ∀ {a b : Hp}, keepOk a b = true → a.length = b.length
  | [], [], _ => rfl
  | [], _ :: _, h => by simp [keepOk] at h
  | _ :: _, [], h => by simp [keepOk] at h
  | B :: r, B' :: r', h => by
    simp only [keepOk, Bool.and_eq_true] at h
    simp [keepOk_len h.2]
theorem keepOk_get : ∀ {a b : Hp} {k : Nat} {B B' : Blk}, keepOk a b = true → a[k]? = some B → b[k]? = some B' → (B'.wrB = true → B.wrB = true) ∧ (B'.solid = true → B.solid = true)
  | [], [], k, _, _, _, h, _ => by simp at h
  | [], _ :: _, _, _, _, h, _, _ => by simp [keepOk] at h
  | _ :: _, [], _, _, _, h, _, _ => by simp [keepOk] at h
  | A :: r, A' :: r', 0, B, B', h, h1, h2 => by
    simp only [keepOk, Bool.and_eq_true, Bool.or_eq_true, Bool.not_eq_true'] at h
    simp at h1 h2
    subst h1 h2
    refine ⟨fun e => ?_, fun e => ?_⟩
    · rcases h.1.1 with h | h
      · rw [h] at e; cases e
      · exact h
    · rcases h.1.2 with h | h
      · rw [h] at e; cases e
      · exact h
  | A :: r, A' :: r', k + 1, B, B', h, h1, h2 => by
    simp only [keepOk, Bool.and_eq_true] at h
    exact keepOk_get h.2 (by simpa using h1) (by simpa using h2)
def ownJ (J : List Nat) (ρ : List Loc) (h : Hp) (w : World) (b : Nat) : Prop := w.heap.size ≤ b ∨ ∃ (id : Nat) (B : Blk) (l : Loc), id ∈ J ∧ h[id]? = some B ∧ ρ[id]? = some l ∧ B.wrB = true ∧ b = l.blk
theorem HRel.pickW {own : Nat → Prop} {ρ : List Loc} {h : Hp} {w : World} (H : HRel own ρ h w) {J : List Nat} (hn : J.Nodup) (hJ : ∀ id ∈ J, id < h.length) : HRel (ownJ J ρ h w) (pickR ρ J) (gcR J h) w := by
  have G := H.gc hn hJ
  refine ⟨G.glob.own (fun b hb k => by rcases k with k | ⟨id, B, l, _, k1, k2, k3, rfl⟩ <;> first | (exfalso; omega) | exact H.ours id B l k1 k2 k3), G.len, fun b hb => .inl hb, G.blk, fun k B l h1 h2 h3 => ?_, G.lt, G.sep⟩
  simp only [gcR, pickR, List.getElem?_map, Option.map_eq_some_iff] at h1 h2
  obtain ⟨id, k1, k2⟩ := h1
  obtain ⟨id', k3, k4⟩ := h2
  obtain rfl : id = id' := Option.some.inj (k1.symm.trans k3)
  have hid := hJ id (List.mem_of_getElem? k1)
  have hid' : id < ρ.length := by rw [H.len]; exact hid
  rw [List.getD_eq_getElem?_getD, List.getElem?_eq_getElem hid, Option.getD_some] at k2
  rw [locOf, List.getElem?_eq_getElem hid', Option.getD_some] at k4
  subst k2 k4
  rw [reB_wr] at h3
  exact .inr ⟨id, _, _, List.mem_of_getElem? k1, List.getElem?_eq_getElem hid, List.getElem?_eq_getElem hid', h3, rfl⟩
theorem upd_core {own : Nat → Prop} {ρ ρ' : List Loc} {h upd new : Hp} {w w' : World} {J : List Nat} {r : AV} {z : Value} (H : HRel own ρ h w) (hn : J.Nodup) (hJ : ∀ id ∈ J, id < h.length)
    (hnew : new.all (fun B => B.wrB || !B.solid) = true) (hk : keepOk (gcR J h) upd = true) (k1 : HRel (ownJ J ρ h w) ρ' (upd ++ new) w') (k2 : VRel ρ' r z)
    (k3 : Pin J.length (pickR ρ J) ρ') (k4 : Keeps (ownJ J ρ h w) w w') :
    ∃ σ, HRel own (ρ ++ σ) (putRows J (upd.map (reB (backN J h.length))) h ++ new.map (reB (backN J h.length))) w' ∧ VRel (ρ ++ σ) (reA (backN J h.length) r) z ∧ Keeps own w w' := by
  have ulen : upd.length = J.length := by rw [← keepOk_len hk]; simp [gcR]
  have hlen' := k1.len
  rw [List.length_append, ulen] at hlen'
  have hd : (ρ'.drop J.length).length = new.length := by rw [List.length_drop]; omega
  have owns : ∀ b, ownJ J ρ h w b → own b := by
    rintro b (hb | ⟨id, B, l, _, h2, h3, h4, rfl⟩)
    · exact H.fresh b hb
    · exact H.ours id B l h2 h3 h4
  have hf : ∀ id k l, backN J h.length id = some k → ρ'[id]? = some l → (ρ ++ ρ'.drop J.length)[k]? = some l := by
    intro id k l hk hl
    unfold backN at hk
    split at hk
    · rename_i hlt
      obtain ⟨jd, hjd⟩ : ∃ jd, J[id]? = some jd := ⟨J[id], List.getElem?_eq_getElem hlt⟩
      obtain rfl : jd = k := Option.some.inj (hjd.symm.trans hk)
      have hjl := hJ jd (List.mem_of_getElem? hjd)
      have hjl' : jd < ρ.length := by rw [H.len]; exact hjl
      have h1 : (pickR ρ J)[id]? = ρ[jd]? := by
        simp [pickR, List.getElem?_map, hjd, locOf, List.getElem?_eq_getElem hjl']
      have h2 := k3 id ρ[jd] hlt (by rw [h1]; exact List.getElem?_eq_getElem hjl')
      rw [List.getElem?_append_left hjl', List.getElem?_eq_getElem hjl', ← h2, hl]
    · rename_i hge
      obtain rfl := Option.some.inj hk
      rw [List.getElem?_append_right (by rw [H.len]; omega), H.len]
      have : h.length + (id - J.length) - h.length = id - J.length := by omega
      rw [this, List.getElem?_drop]
      have : J.length + (id - J.length) = id := by omega
      rw [this]; exact hl
  -- a row of the heap behind: one of the picked ones, one of the others, a new one
  have cases3 : ∀ {id : Nat} {B : Blk} {l : Loc}, (putRows J (upd.map (reB (backN J h.length))) h ++ new.map (reB (backN J h.length)))[id]? = some B → (ρ ++ ρ'.drop J.length)[id]? = some l →
      (∃ (k : Nat) (B0 Bo : Blk), posOf J id = some k ∧ upd[k]? = some B0 ∧ B = reB (backN J h.length) B0 ∧ h[id]? = some Bo ∧ ρ[id]? = some l ∧ ρ'[k]? = some l ∧ k < J.length ∧ (B0.wrB = true → Bo.wrB = true) ∧ (B0.solid = true → Bo.solid = true)) ∨
      (posOf J id = none ∧ h[id]? = some B ∧ ρ[id]? = some l) ∨
      (∃ (i : Nat) (B0 : Blk), id = h.length + i ∧ new[i]? = some B0 ∧ B = reB (backN J h.length) B0 ∧ ρ'[J.length + i]? = some l) := by
    intro id B l h1 h2
    by_cases hid : id < h.length
    · rw [List.getElem?_append_left (by rw [putRows_length]; exact hid)] at h1
      rw [List.getElem?_append_left (by rw [H.len]; exact hid)] at h2
      rw [putRows_get hn (by rw [List.length_map, ulen]) hJ] at h1
      cases hp : posOf J id with
      | none => rw [hp] at h1; exact .inr (.inl ⟨rfl, h1, h2⟩)
      | some k =>
        rw [hp] at h1
        simp only [List.getElem?_map, Option.map_eq_some_iff] at h1
        obtain ⟨B0, h3, rfl⟩ := h1
        have hkJ := posOf_get hp
        have hkl : k < J.length := (List.getElem?_eq_some_iff.1 hkJ).1
        have hid' : id < ρ.length := by rw [H.len]; exact hid
        have hpick : (pickR ρ J)[k]? = some l := by
          rw [pickR, List.getElem?_map, hkJ]; simp [locOf, h2]
        have hg : (gcR J h)[k]? = some (reB (posOf J) h[id]) := by
          rw [gcR, List.getElem?_map, hkJ]; simp [List.getD_eq_getElem?_getD, List.getElem?_eq_getElem hid]
        have hkk := keepOk_get hk hg h3
        rw [reB_wr, reB_solid] at hkk
        exact .inl ⟨k, B0, h[id], rfl, h3, rfl, List.getElem?_eq_getElem hid, h2, k3 k l hkl hpick, hkl, hkk.1, hkk.2⟩
    · rw [List.getElem?_append_right (by rw [putRows_length]; omega), putRows_length] at h1
      rw [List.getElem?_append_right (by rw [H.len]; omega), H.len, List.getElem?_drop] at h2
      simp only [List.getElem?_map, Option.map_eq_some_iff] at h1
      obtain ⟨B0, h3, rfl⟩ := h1
      exact .inr (.inr ⟨id - h.length, B0, by omega, h3, rfl, h2⟩)
  have up : ∀ {k : Nat} {B0 : Blk}, upd[k]? = some B0 → (upd ++ new)[k]? = some B0 := fun {k B0} hu => by
    rw [List.getElem?_append_left (List.getElem?_eq_some_iff.1 hu).1]; exact hu
  have nw : ∀ {i : Nat} {B0 : Blk}, new[i]? = some B0 → (upd ++ new)[J.length + i]? = some B0 := fun {i B0} hu => by
    rw [List.getElem?_append_right (by omega)]
    have : J.length + i - upd.length = i := by omega
    rw [this]; exact hu
  -- the others' blocks are not among those that may be written
  have apart : ∀ {id : Nat} {B : Blk} {l : Loc}, posOf J id = none → h[id]? = some B → ρ[id]? = some l → B.solid = true → ¬ ownJ J ρ h w l.blk := by
    rintro id B l hp hB hl hs (hb | ⟨jd, Bj, lj, g1, g2, g3, g4, g5⟩)
    · have := H.lt id B l hB hl hs; omega
    · have hne : jd ≠ id := fun e => by
        subst e
        obtain ⟨k, hk⟩ := posOf_some g1
        rw [hk] at hp; cases hp
      exact H.sep jd id Bj B lj l g2 hB g3 hl hne g4 hs g5.symm
  refine ⟨ρ'.drop J.length, ?_, k2.reA hf, ⟨k4.os, k4.tape, k4.output, k4.size, fun b hb => k4.block b fun hb' => hb (owns b hb')⟩⟩
  have wrnew : ∀ {i : Nat} {B0 : Blk}, new[i]? = some B0 → B0.solid = true → B0.wrB = true := by
    intro i B0 hi hs
    have := List.all_eq_true.1 hnew B0 (List.mem_of_getElem? hi)
    simp only [Bool.or_eq_true, Bool.not_eq_true'] at this
    rcases this with h | h
    · exact h
    · rw [h] at hs; cases hs
  refine ⟨H.glob.keep k4.size (fun b hb _ => k4.block b fun hb' => hb (owns b hb')), by rw [List.length_append, List.length_append, putRows_length, List.length_map, H.len, hd], fun b hb => H.fresh b (Nat.le_trans k4.size hb), fun id B l m1 m2 => ?_, fun id B l m1 m2 m3 => ?_, fun id B l m1 m2 m3 => ?_, fun i j Bi Bj li lj m1 m2 m3 m4 m5 m6 m7 => ?_⟩
  · rcases cases3 m1 m2 with ⟨k, B0, Bo, c1, c2, rfl, c4, c5, c6, c7, _⟩ | ⟨c1, c2, c3⟩ | ⟨i, B0, rfl, c2, rfl, c4⟩
    · exact (k1.blk k B0 l (up c2) c6).reB hf
    · exact ((H.blk id B l c2 c3).old fun hs => k4.block _ (apart c1 c2 c3 hs)).more _
    · exact (k1.blk _ B0 l (nw c2) c4).reB hf
  · rcases cases3 m1 m2 with ⟨k, B0, Bo, c1, c2, rfl, c4, c5, c6, c7, _⟩ | ⟨c1, c2, c3⟩ | ⟨i, B0, rfl, c2, rfl, c4⟩
    · rw [reB_wr] at m3; exact owns _ (k1.ours k B0 l (up c2) c6 m3)
    · exact H.ours id B l c2 c3 m3
    · rw [reB_wr] at m3; exact owns _ (k1.ours _ B0 l (nw c2) c4 m3)
  · rcases cases3 m1 m2 with ⟨k, B0, Bo, c1, c2, rfl, c4, c5, c6, c7, _⟩ | ⟨c1, c2, c3⟩ | ⟨i, B0, rfl, c2, rfl, c4⟩
    · rw [reB_solid] at m3; exact k1.lt k B0 l (up c2) c6 m3
    · exact Nat.lt_of_lt_of_le (H.lt id B l c2 c3 m3) k4.size
    · rw [reB_solid] at m3; exact k1.lt _ B0 l (nw c2) c4 m3
  · rcases cases3 m1 m3 with ⟨k, B0, Bo, c1, c2, rfl, c4, c5, c6, c7, c8, c9⟩ | ⟨c1, c2, c3⟩ | ⟨i', B0, rfl, c2, rfl, c4⟩ <;>
      rcases cases3 m2 m4 with ⟨k', B0', Bo', d1, d2, rfl, d4, d5, d6, d7, d8, d9⟩ | ⟨d1, d2, d3⟩ | ⟨j', B0', rfl, d2, rfl, d4⟩
    · rw [reB_wr] at m6
      rw [reB_solid] at m7
      refine k1.sep k k' B0 B0' li lj (up c2) (up d2) c6 d6 (fun e => m5 ?_) m6 m7
      subst e
      have e1 := posOf_get c1
      have e2 := posOf_get d1
      exact Option.some.inj (e1.symm.trans e2)
    · rw [reB_wr] at m6
      exact H.sep i j Bo Bj li lj c4 d2 c5 d3 m5 (c8 m6) m7
    · rw [reB_wr] at m6
      rw [reB_solid] at m7
      exact k1.sep k _ B0 B0' li lj (up c2) (nw d2) c6 d4 (by omega) m6 m7
    · rw [reB_solid] at m7
      exact H.sep i j Bi Bo' li lj c2 d4 c3 d5 m5 m6 (d9 m7)
    · exact H.sep i j Bi Bj li lj c2 d2 c3 d3 m5 m6 m7
    · rw [reB_solid] at m7
      have := k1.ours _ B0' lj (nw d2) d4 (wrnew d2 m7)
      exact fun e => apart c1 c2 c3 (solid_of_wr m6) (e ▸ this)
    · rw [reB_wr] at m6
      rw [reB_solid] at m7
      exact k1.sep _ k' B0 B0' li lj (nw c2) (up d2) c4 d6 (by omega) m6 m7
    · rw [reB_wr] at m6
      have := k1.ours _ B0 li (nw c2) c4 m6
      exact fun e => apart d1 d2 d3 m7 (e ▸ this)
    · rw [reB_wr] at m6
      rw [reB_solid] at m7
      exact k1.sep _ _ B0 B0' li lj (nw c2) (nw d2) c4 d4 (by omega) m6 m7
theorem SoundF.upd (hT : Follows T Γ) (hΓ : Sound P Γ) (hm : P.follows .mixedOrders = true) {f : FuncId} {fn : Func} (hf : fnOk1 P W f fn) {C : List AV → Hp → Option (AV × Hp)}
    (hC : ∀ args h r h', C args h = some (r, h') → ∃ (J : List Nat) (LA : Nat → Option Head) (r0 : AV) (upd new : Hp), J.Nodup ∧ (∀ id ∈ J, id < h.length) ∧ r = reA (backN J h.length) r0 ∧
      h' = putRows J (upd.map (reB (backN J h.length))) h ++ new.map (reB (backN J h.length)) ∧ new.all (fun B => B.wrB || !B.solid) = true ∧ keepOk (gcR J h) upd = true ∧
      wpFn P T W LA J.length fn (reAs (posOf J) args) (gcR J h) fun v h1 => ∃ t1, Wk J.length ⟨[v], h1⟩ ⟨[t1], upd ++ new⟩ ∧ t1 = r0) : SoundF P f C := by
  intro args h r h' he own ρ w vs H ha
  obtain ⟨J, LA, r0, upd, new, hn, hJ, rfl, rfl, hnew, hk, hw⟩ := hC args h r h' he
  have hfj : ∀ id k l, posOf J id = some k → ρ[id]? = some l → (pickR ρ J)[k]? = some l := fun id k l h1 h2 => pick_get h1 h2
  refine (wpFn_calls hT hΓ hm hf hw (H.pickW hn hJ) (ha.reAs hfj)).mono fun e w' hp => ?_
  obtain ⟨ρ', z, r', h1, ⟨t1, hwk, rfl⟩, rfl, k1, k2, k3, k4⟩ := hp
  obtain ⟨ρ2, m1, ⟨z', _, hz, m2, hn'⟩, m3⟩ := hwk.run _ ρ' w' [z] k1 ⟨z, [], rfl, k2, rfl⟩
  cases hz
  obtain ⟨σ, q1, q2, q3⟩ := upd_core H hn hJ hnew hk m1 m2 (k3.trans m3) k4
  exact ⟨σ, z, rfl, q1, q2, q3⟩
end
end Go.Proofs.Ytnfbgfmdjaodgaa.Eng
