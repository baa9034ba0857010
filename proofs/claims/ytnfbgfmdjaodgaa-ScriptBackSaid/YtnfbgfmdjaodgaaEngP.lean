/- A function that writes no row, over the rows alone that its arguments lead to: what it answers there it answers over any rows. -/
import Derived.Test.YtnfbgfmdjaodgaaEngO
set_option linter.unusedVariables false
set_option linter.unusedSimpArgs false
namespace Go.Proofs.Ytnfbgfmdjaodgaa.Eng
open Go.RowKit

def posOf : List Nat → Nat → Option Nat
  | [], _ => none
  | j :: J, id => if j = id then some 0 else (posOf J id).map (· + 1)
theorem posOf_get : ∀ {J : List Nat} {id k : Nat}, posOf J id = some k → J[k]? = some id
  | j :: J, id, k, h => by
    simp only [posOf] at h
    split at h
    · rename_i e; cases h; simp [e]
    · obtain ⟨k', h1, h2⟩ := Option.map_eq_some_iff.1 h
      subst h2
      simpa using posOf_get h1
mutual
def ren (J : List Nat) : AV → AV
  | .p id off => match posOf J id with
    | some k => .p k off
    | none => .bad
  | .sl id off len esz cap => match posOf J id with
    | some k => .sl k off len esz cap
    | none => .bad
  | .m id => match posOf J id with
    | some k => .m k
    | none => .bad
  | .ic t v => .ic t (ren J v)
  | .fn f c => .fn f (rens J c)
  | .ag x => .ag (rens J x)
  | .tu x => .tu (rens J x)
  | v => v
def rens (J : List Nat) : List AV → List AV
  | [] => []
  | x :: xs => ren J x :: rens J xs
end
def locOf (ρ : List Loc) (id : Nat) : Loc := (ρ[id]?).getD ⟨0, 0, 0⟩
def pickR (ρ : List Loc) (J : List Nat) : List Loc := J.map (locOf ρ)
def renB (J : List Nat) : Blk → Blk
  | .cells c _ => .cells (rens J c) false
  | _ => .dead
def pickH (h : Hp) (J : List Nat) : Hp := J.map fun id => renB J ((h[id]?).getD .dead)
theorem pick_get {ρ : List Loc} {J : List Nat} {id k : Nat} {l : Loc} (hk : posOf J id = some k) (hl : ρ[id]? = some l) : (pickR ρ J)[k]? = some l := by
  rw [pickR, List.getElem?_map, posOf_get hk]
  simp [locOf, hl]
mutual
theorem VRel.ren {ρ : List Loc} (J : List Nat) : ∀ {a : AV} {v : Value}, VRel ρ a v → VRel (pickR ρ J) (Eng.ren J a) v
  | .bad, _, h => trivial
  | .bo _, _, h => h
  | .i _ _, _, h => h
  | .s _, _, h => h
  | .pn, _, h => h
  | .p id off, v, h => by
    obtain ⟨l, h1, h2⟩ := h
    simp only [Eng.ren]
    split
    · rename_i k hk; exact ⟨l, pick_get hk h1, h2⟩
    · trivial
  | .sn, _, h => h
  | .sl id off len esz cap, v, h => by
    obtain ⟨l, a, h1, h2⟩ := h
    simp only [Eng.ren]
    split
    · rename_i k hk; exact ⟨l, a, pick_get hk h1, h2⟩
    · trivial
  | .mn, _, h => h
  | .m id, v, h => by
    obtain ⟨l, h1, h2⟩ := h
    simp only [Eng.ren]
    split
    · rename_i k hk; exact ⟨l, pick_get hk h1, h2⟩
    · trivial
  | .nf, _, h => h
  | .ni, _, h => h
  | .ic _ x, _, ⟨y, h1, h2⟩ => ⟨y, h1, VRel.ren J (a := x) h2⟩
  | .fn _ caps, _, ⟨ys, h1, h2⟩ => ⟨ys, h1, VRels.ren J (as := caps) h2⟩
  | .ag xs, _, ⟨ys, h1, h2⟩ => ⟨ys, h1, VRels.ren J (as := xs) h2⟩
  | .tu xs, _, ⟨ys, h1, h2⟩ => ⟨ys, h1, VRels.ren J (as := xs) h2⟩
theorem VRels.ren {ρ : List Loc} (J : List Nat) : ∀ {as : List AV} {vs : List Value}, VRels ρ as vs → VRels (pickR ρ J) (rens J as) vs
  | [], _, h => h
  | x :: xs, _, ⟨y, ys, h1, h2, h3⟩ => ⟨y, ys, h1, VRel.ren J (a := x) h2, VRels.ren J (as := xs) h3⟩
end
theorem rens_length (J : List Nat) : ∀ (c : List AV), (rens J c).length = c.length
  | [] => rfl
  | x :: xs => by simp [rens, rens_length J xs]
theorem rens_get (J : List Nat) : ∀ (c : List AV) (j : Nat), (rens J c)[j]? = c[j]?.map (ren J)
  | [], j => by simp [rens]
  | x :: xs, 0 => by simp [rens]
  | x :: xs, j + 1 => by simp [rens, rens_get J xs j]
section
variable {own : Nat → Prop} {ρ : List Loc} {h : Hp} {w : World}
theorem HRel.pick (H : HRel own ρ h w) {J : List Nat} (hJ : ∀ id ∈ J, id < h.length) : HRel (w.heap.size ≤ ·) (pickR ρ J) (pickH h J) w := by
  have gt : ∀ {k : Nat} {B' : Blk} {l : Loc}, (pickH h J)[k]? = some B' → (pickR ρ J)[k]? = some l → ∃ (id : Nat) (B : Blk), h[id]? = some B ∧ ρ[id]? = some l ∧ B' = renB J B := by
    intro k B' l e1 e2
    simp only [pickH, pickR, List.getElem?_map, Option.map_eq_some_iff] at e1 e2
    obtain ⟨id, k1, k2⟩ := e1
    obtain ⟨id', k3, k4⟩ := e2
    obtain rfl : id = id' := Option.some.inj (k1.symm.trans k3)
    have hid := hJ id (List.mem_of_getElem? k1)
    have hid' : id < ρ.length := by rw [H.len]; exact hid
    rw [List.getElem?_eq_getElem hid, Option.getD_some] at k2
    rw [locOf, List.getElem?_eq_getElem hid', Option.getD_some] at k4
    exact ⟨id, _, List.getElem?_eq_getElem hid, by rw [List.getElem?_eq_getElem hid', k4], k2.symm⟩
  have nowr : ∀ (B : Blk), (renB J B).wrB = false := fun B => by cases B <;> rfl
  refine ⟨H.glob.over, by simp [pickR, pickH], fun b hb => hb, fun k B' l h1 h2 => ?_, fun k B' l h1 h2 h3 => ?_, fun k B' l h1 h2 h3 => ?_, fun i j Bi Bj li lj h1 h2 h3 h4 h5 h6 h7 => ?_⟩
  · obtain ⟨id, B, hB, hl, rfl⟩ := gt h1 h2
    have hb := H.blk id B l hB hl
    cases B with
    | cells c wr =>
      refine ⟨by rw [rens_length]; exact hb.1, fun j a hj => ?_, fun hw => by cases hw⟩
      rw [rens_get, Option.map_eq_some_iff] at hj
      obtain ⟨a', h3, rfl⟩ := hj
      obtain ⟨v, hv, hr⟩ := hb.2.1 j a' h3
      exact ⟨v, hv, hr.ren J⟩
    | map es => trivial
    | iter s pos => trivial
    | dead => trivial
  · obtain ⟨id, B, hB, hl, rfl⟩ := gt h1 h2
    rw [nowr] at h3; cases h3
  · obtain ⟨id, B, hB, hl, rfl⟩ := gt h1 h2
    refine H.lt id B l hB hl ?_
    cases B with
    | cells c wr =>
      cases c with
      | nil => simp [renB, rens, Blk.solid] at h3
      | cons x xs => simp [Blk.solid]
    | _ => simp [renB, Blk.solid] at h3
  · obtain ⟨id, B, hB, hl, rfl⟩ := gt h1 h3
    rw [nowr] at h6; cases h6
theorem pick_run {P : Program} {Γ : Env} (hΓ : Sound P Γ) (hm : P.follows .mixedOrders = true) {W : Nat → Option Road} {F : Nat} {f : FuncId} {fn : Func} {args : List AV} {h1 : Hp} {r : AV} {J : List Nat} (hf : P.funcs[f]? = some fn) (hok : ∀ c, fn.body = some c → codeOk P W c = true)
    (hJ : ∀ id ∈ J, id < h.length) (he : runFn P Γ W F fn (rens J args) (pickH h J) = some (r, h1)) (hu : r.under 0 = true) {vs : List Value} (H : HRel own ρ h w) (ha : VRels ρ args vs) :
    Calls P f vs.toArray w fun e w' => ∃ σ z, e = .returned z ∧ HRel own (ρ ++ σ) h w' ∧ VRel (ρ ++ σ) r z ∧ Keeps own w w' := by
  refine (runFn_run hΓ hm hf hok he (H.pick hJ) (ha.ren J)).mono fun e w' hp => ?_
  obtain ⟨σ, z, k1, k2, k3, k4⟩ := hp
  have old : ∀ b, b < w.heap.size → w'.heap[b]? = w.heap[b]? := fun b hb => k4.block b (by omega)
  refine ⟨[], z, k1, ?_, ?_, ⟨k4.os, k4.tape, k4.output, k4.size, fun b hb => k4.block b fun hle => hb (H.fresh b hle)⟩⟩
  · rw [List.append_nil]
    exact ⟨H.glob.keep k4.size (fun b _ hb => old b hb), H.len, fun b hb => H.fresh b (Nat.le_trans k4.size hb), fun id B l m1 m2 => (H.blk id B l m1 m2).old fun hs => old _ (H.lt id B l m1 m2 hs), H.ours, fun id B l m1 m2 m3 => Nat.lt_of_lt_of_le (H.lt id B l m1 m2 m3) k4.size, H.sep⟩
  · rw [List.append_nil]
    have h0 : VRel [] r z := VRel.less (ρ := []) (σ := pickR ρ J ++ σ) hu (by simpa using k3)
    have := h0.more (ρ := []) ρ
    simpa using this
end
end Go.Proofs.Ytnfbgfmdjaodgaa.Eng
