/- A judgement over states: what a run comes to, with what is forgotten on the way; loops by an invariant; functions. -/
import Derived.Test.YtnfbgfmdjaodgaaEngQ
set_option linter.unusedVariables false
set_option linter.unusedSimpArgs false
namespace Go.Proofs.Ytnfbgfmdjaodgaa.Eng
open Go.RowKit

def Pin (k : Nat) (ρ ρ' : List Loc) : Prop := ∀ i l, i < k → ρ[i]? = some l → ρ'[i]? = some l
theorem Pin.refl (k : Nat) (ρ : List Loc) : Pin k ρ ρ := fun _ _ _ h => h
theorem Pin.trans {k : Nat} {a b c : List Loc} (h : Pin k a b) (h' : Pin k b c) : Pin k a c := fun i l hi e => h' i l hi (h i l hi e)
theorem Pin.more (k : Nat) (ρ σ : List Loc) : Pin k ρ (ρ ++ σ) := fun _ _ _ h => get_more σ h
def PostR (k : Nat) (own : Nat → Prop) (ρ : List Loc) (w : World) (D : List Deferred) (Q : Ex → St → Prop) : Exit → Act → World → Prop := fun e a' w' =>
  ∃ ex s' ρ', Q ex s' ∧ ex.is e ∧ HRel own ρ' s'.h w' ∧ VRels ρ' s'.t a'.tmps.toList ∧ Pin k ρ ρ' ∧ Keeps own w w' ∧ a'.defers = D
def Run (P : Program) (k : Nat) (c : Code) (s : St) (Q : Ex → St → Prop) : Prop :=
  ∀ (own : Nat → Prop) (ρ : List Loc) (a : Act) (w : World), HRel own ρ s.h w → VRels ρ s.t a.tmps.toList → c.wp P (PostR k own ρ w a.defers Q) a w
structure Wk (k : Nat) (x s : St) : Prop where
  run : ∀ (own : Nat → Prop) (ρ : List Loc) (w : World) (vs : List Value), HRel own ρ x.h w → VRels ρ x.t vs → ∃ ρ', HRel own ρ' s.h w ∧ VRels ρ' s.t vs ∧ Pin k ρ ρ'

section
variable {P : Program} {k : Nat} {s s1 : St} {Q : Ex → St → Prop}
theorem PostR.then {k : Nat} {own : Nat → Prop} {ρ ρ1 : List Loc} {w w1 : World} {D : List Deferred} {Q : Ex → St → Prop} {e : Exit} {a' : Act} {w' : World} (hp : Pin k ρ ρ1) (hk : Keeps own w w1)
    (h : PostR k own ρ1 w1 D Q e a' w') : PostR k own ρ w D Q e a' w' := by
  obtain ⟨ex, s', ρ', h1, h2, h3, h4, h5, h6, h7⟩ := h
  exact ⟨ex, s', ρ', h1, h2, h3, h4, hp.trans h5, hk.trans h6, h7⟩
theorem Run.exec {Γ : Env} (hΓ : Sound P Γ) (hm : P.follows .mixedOrders = true) {W : Nat → Option Road} {F : Nat} {c : Code} {ex : Ex} {s' : St} (hok : codeOk P W c = true) (he : Eng.exec P Γ W F c s = some (ex, s')) (hQ : Q ex s') : Run P k c s Q := by
  intro own ρ a w H ht
  refine wp_mono (exec_run hΓ hm W F c own s s' ex ρ a w hok he H ht) fun e a' w' hp => ?_
  obtain ⟨h1, σ, h2, h3, h4, h5⟩ := hp
  exact ⟨ex, s', ρ ++ σ, hQ, h1, h2, h3, Pin.more _ _ _, h4, h5⟩
theorem Run.mono {c : Code} {Q' : Ex → St → Prop} (h : Run P k c s Q) (hq : ∀ ex s', Q ex s' → Q' ex s') : Run P k c s Q' := by
  intro own ρ a w H ht
  refine wp_mono (h own ρ a w H ht) fun e a' w' hp => ?_
  obtain ⟨ex, s', ρ', h1, h2⟩ := hp
  exact ⟨ex, s', ρ', hq _ _ h1, h2⟩
theorem Run.wk {c : Code} (hw : Wk k s s1) (h : Run P k c s1 Q) : Run P k c s Q := by
  intro own ρ a w H ht
  obtain ⟨ρ', h1, h2, h3⟩ := hw.run own ρ w _ H ht
  exact wp_mono (h own ρ' a w h1 h2) fun e a' w' hp => hp.then h3 (Keeps.refl _ _)
theorem Run.post {c : Code} {Q' : Ex → St → Prop} (h : Run P k c s Q') (hq : ∀ ex s', Q' ex s' → ∃ s'', Wk k s' s'' ∧ Q ex s'') : Run P k c s Q := by
  intro own ρ a w H ht
  refine wp_mono (h own ρ a w H ht) fun e a' w' hp => ?_
  obtain ⟨ex, s', ρ', h1, h2, h3, h4, h5, h6⟩ := hp
  obtain ⟨s'', hw, hQ⟩ := hq _ _ h1
  obtain ⟨ρ'', k1, k2, k3⟩ := hw.run own ρ' w' _ h3 h4
  exact ⟨ex, s'', ρ'', hQ, h2, k1, k2, h5.trans k3, h6⟩
theorem Run.seq {x y : Code} {Q1 : Ex → St → Prop} (h1 : Run P k x s Q1) (h2 : ∀ s1, Q1 .n s1 → Run P k y s1 Q) (h3 : ∀ ex s1, ex ≠ .n → Q1 ex s1 → Q ex s1) : Run P k (.seq x y) s Q := by
  intro own ρ a w H ht
  refine wp_seq (wp_mono (h1 own ρ a w H ht) fun e a' w' hp => ?_)
  obtain ⟨ex, s', ρ', q, k1, k2, k3, k4, k5, k6⟩ := hp
  cases ex with
  | n =>
    cases e with
    | normal =>
      have := h2 s' q own ρ' a' w' k2 k3
      rw [k6] at this
      exact wp_mono this fun e a'' w'' hp => hp.then k4 k5
    | _ => exact k1.elim
  | x i =>
    have hQ := h3 (.x i) s' (by simp) q
    cases e <;> first | exact k1.elim | exact ⟨.x i, s', ρ', hQ, k1, k2, k3, k4, k5, k6⟩
  | r =>
    have hQ := h3 .r s' (by simp) q
    cases e <;> first | exact k1.elim | exact ⟨.r, s', ρ', hQ, k1, k2, k3, k4, k5, k6⟩
theorem Run.cond {c : Operand} {x y : Code} {b : Bool} (hc : ev s.t c = .bo b) (h1 : b = true → Run P k x s Q) (h2 : b = false → Run P k y s Q) : Run P k (.cond c x y) s Q := by
  intro own ρ a w H ht
  have he := ev_rel ht c
  rw [hc] at he
  cases b with
  | true => exact wp_cond_true he (h1 rfl own ρ a w H ht)
  | false => exact wp_cond_false he (h2 rfl own ρ a w H ht)
theorem Run.skip (h : Q .n s) : Run P k .skip s Q := fun own ρ a w H ht => wp_skip ⟨.n, s, ρ, h, trivial, H, ht, Pin.refl _ _, Keeps.refl _ _, rfl⟩
theorem Run.exit {i : Nat} (h : Q (.x i) s) : Run P k (.exit i) s Q := fun own ρ a w H ht => wp_exit ⟨.x i, s, ρ, h, rfl, H, ht, Pin.refl _ _, Keeps.refl _ _, rfl⟩
theorem Run.ret (h : Q .r s) : Run P k .ret s Q := fun own ρ a w H ht => wp_ret ⟨.r, s, ρ, h, trivial, H, ht, Pin.refl _ _, Keeps.refl _ _, rfl⟩
theorem Run.block {id : Nat} {c : Code} (h : Run P k c s fun ex s' => match ex with
    | .x i => if i = id then Q .n s' else Q (.x i) s'
    | ex => Q ex s') : Run P k (.block id c) s Q := by
  intro own ρ a w H ht
  refine wp_block (wp_mono (h own ρ a w H ht) fun e a' w' hp => ?_)
  obtain ⟨ex, s', ρ', q, k1, hr⟩ := hp
  cases ex with
  | n =>
    cases e <;> first | exact k1.elim | exact ⟨.n, s', ρ', q, k1, hr⟩
  | r =>
    cases e <;> first | exact k1.elim | exact ⟨.r, s', ρ', q, k1, hr⟩
  | x i =>
    cases e with
    | exit j =>
      have k1 : i = j := k1
      subst k1
      simp only [Exit.inBlock]
      by_cases hid : i = id
      · simp only [hid, if_true] at q ⊢
        exact ⟨.n, s', ρ', q, trivial, hr⟩
      · simp only [hid, if_false] at q ⊢
        exact ⟨.x i, s', ρ', q, rfl, hr⟩
    | _ => exact k1.elim
theorem Run.scope {c : Code} (h : Run P k c s Q) : Run P k (.scope c) s Q := by
  intro own ρ a w H ht
  refine wp_scope_straight (wp_mono (h own ρ a w H ht) fun e a' w' hp => ?_)
  cases e with
  | goto l =>
    obtain ⟨ex, s', ρ', q, k1, hr⟩ := hp
    cases ex <;> exact k1.elim
  | _ => exact hp
theorem Run.loop {c : Code} (I : Nat → St → Prop) (n : Nat) (h0 : I n s) (h : ∀ n s, I n s → Run P k c s fun ex s' => match ex with
    | .n => ∃ m, m < n ∧ I m s'
    | ex => Q ex s') : Run P k (.loop c) s Q := by
  intro own ρ a w H ht
  refine wp_loop_ghost (fun n a1 w1 => ∃ s1 ρ1, I n s1 ∧ HRel own ρ1 s1.h w1 ∧ VRels ρ1 s1.t a1.tmps.toList ∧ Pin k ρ ρ1 ∧ Keeps own w w1 ∧ a1.defers = a.defers) n ⟨s, ρ, h0, H, ht, Pin.refl _ _, Keeps.refl _ _, rfl⟩ ?_
  rintro n a1 w1 ⟨s1, ρ1, i1, k1, k2, k3, k4, k5⟩
  refine wp_mono (h n s1 i1 own ρ1 a1 w1 k1 k2) fun e a' w' hp => ?_
  obtain ⟨ex, s', ρ', q, m1, m2, m3, m4, m5, m6⟩ := hp
  cases ex with
  | n =>
    obtain ⟨m, hm, hI⟩ := q
    cases e with
    | normal => exact ⟨m, hm, s', ρ', hI, m2, m3, k3.trans m4, k4.trans m5, m6.trans k5⟩
    | _ => exact m1.elim
  | x i =>
    cases e <;> first | exact m1.elim | exact ⟨.x i, s', ρ', q, m1, m2, m3, k3.trans m4, k4.trans m5, m6.trans k5⟩
  | r =>
    cases e <;> first | exact m1.elim | exact ⟨.r, s', ρ', q, m1, m2, m3, k3.trans m4, k4.trans m5, m6.trans k5⟩
end

theorem Wk.refl (k : Nat) (s : St) : Wk k s s := ⟨fun _ ρ _ _ H ht => ⟨ρ, H, ht, Pin.refl _ _⟩⟩
theorem Wk.trans {k : Nat} {a b c : St} (h : Wk k a b) (h' : Wk k b c) : Wk k a c := by
  constructor
  intro own ρ w vs H ht
  obtain ⟨ρ1, h1, h2, h3⟩ := h.run own ρ w vs H ht
  obtain ⟨ρ2, k1, k2, k3⟩ := h'.run own ρ1 w vs h1 h2
  exact ⟨ρ2, k1, k2, h3.trans k3⟩
inductive Less : List AV → List AV → Prop
  | nil : Less [] []
  | bad (x : AV) {xs ys : List AV} : Less xs ys → Less (x :: xs) (.bad :: ys)
  | same (x : AV) {xs ys : List AV} : Less xs ys → Less (x :: xs) (x :: ys)
theorem Less.rel {ρ : List Loc} {xs ys : List AV} (h : Less xs ys) : ∀ {vs : List Value}, VRels ρ xs vs → VRels ρ ys vs := by
  induction h with
  | nil => exact fun h => h
  | bad x _ ih => rintro vs ⟨v, vs', rfl, h1, h2⟩; exact ⟨v, vs', rfl, trivial, ih h2⟩
  | same x _ ih => rintro vs ⟨v, vs', rfl, h1, h2⟩; exact ⟨v, vs', rfl, h1, ih h2⟩
theorem Less.refl : ∀ (xs : List AV), Less xs xs
  | [] => .nil
  | x :: xs => .same x (Less.refl xs)
theorem Wk.less {k : Nat} {xs ys : List AV} {h : Hp} (hl : Less xs ys) : Wk k ⟨xs, h⟩ ⟨ys, h⟩ := ⟨fun _ ρ _ _ H ht => ⟨ρ, H, hl.rel ht, Pin.refl _ _⟩⟩

mutual
theorem reA_flat (f : Nat → Option Nat) : ∀ {a : AV}, a.under 0 = true → reA f a = a
  | .bad, _ => rfl
  | .bo _, _ => rfl
  | .i _ _, _ => rfl
  | .s _, _ => rfl
  | .pn, _ => rfl
  | .p _ _, h => by simp [AV.under] at h
  | .sn, _ => rfl
  | .sl _ _ _ _ _, h => by simp [AV.under] at h
  | .mn, _ => rfl
  | .m _, h => by simp [AV.under] at h
  | .nf, _ => rfl
  | .ni, _ => rfl
  | .ic t x, h => by rw [reA, reA_flat f (a := x) (by simpa [AV.under] using h)]
  | .fn g c, h => by rw [reA, reAs_flat f (as := c) (by simpa [AV.under] using h)]
  | .ag x, h => by rw [reA, reAs_flat f (as := x) (by simpa [AV.under] using h)]
  | .tu x, h => by rw [reA, reAs_flat f (as := x) (by simpa [AV.under] using h)]
theorem reAs_flat (f : Nat → Option Nat) : ∀ {as : List AV}, AV.unders 0 as = true → reAs f as = as
  | [], _ => rfl
  | x :: xs, h => by
    have h' : AV.under 0 x = true ∧ AV.unders 0 xs = true := by simpa [AV.unders] using h
    rw [reAs, reA_flat f (a := x) h'.1, reAs_flat f (as := xs) h'.2]
end
theorem unders_append (n : Nat) : ∀ (a b : List AV), AV.unders n (a ++ b) = (AV.unders n a && AV.unders n b)
  | [], b => by simp [AV.unders]
  | x :: xs, b => by simp [AV.unders, unders_append n xs b, Bool.and_assoc]
theorem unders_map {α : Type} (n : Nat) (g : α → AV) (hg : ∀ x, (g x).under n = true) : ∀ (l : List α), AV.unders n (l.map g) = true
  | [] => rfl
  | x :: xs => by simp [AV.unders, hg x, unders_map n g hg xs]
theorem unders_get {n : Nat} : ∀ {c : List AV} {j : Nat} {a : AV}, AV.unders n c = true → c[j]? = some a → a.under n = true
  | [], j, a, _, h => by simp at h
  | x :: xs, 0, a, hu, h => by
    have h' : AV.under n x = true ∧ AV.unders n xs = true := by simpa [AV.unders] using hu
    simp at h; subst h; exact h'.1
  | x :: xs, j + 1, a, hu, h => by
    have h' : AV.under n x = true ∧ AV.unders n xs = true := by simpa [AV.unders] using hu
    exact unders_get h'.2 (by simpa using h)
theorem unders_drop {n : Nat} : ∀ {c : List AV} (j : Nat), AV.unders n c = true → AV.unders n (c.drop j) = true
  | [], j, h => by simp [AV.unders]
  | x :: xs, 0, h => h
  | x :: xs, j + 1, h => by
    have h' : AV.under n x = true ∧ AV.unders n xs = true := by simpa [AV.unders] using h
    exact unders_drop (c := xs) j h'.2
theorem unders_take {n : Nat} : ∀ {c : List AV} (j : Nat), AV.unders n c = true → AV.unders n (c.take j) = true
  | [], j, h => by simp [AV.unders]
  | x :: xs, 0, h => by simp [AV.unders]
  | x :: xs, j + 1, h => by
    have h' : AV.under n x = true ∧ AV.unders n xs = true := by simpa [AV.unders] using h
    simp [AV.unders, h'.1, unders_take (c := xs) j h'.2]

theorem reB_flat (f : Nat → Option Nat) {c : List AV} {wr : Bool} (h : AV.unders 0 c = true) : reB f (.cells c wr) = .cells c wr := by rw [reB, reAs_flat f h]
def gcR (J : List Nat) (h : Hp) : Hp := J.map fun id => reB (posOf J) (h.getD id .dead)
theorem posOf_some {J : List Nat} {id : Nat} (h : id ∈ J) : ∃ k, posOf J id = some k := by
  induction J with
  | nil => simp at h
  | cons j J ih =>
    by_cases e : j = id
    · exact ⟨0, by simp [posOf, e]⟩
    · obtain ⟨k, hk⟩ := ih (by rcases List.mem_cons.1 h with h | h <;> simp_all)
      exact ⟨k + 1, by simp [posOf, e, hk]⟩
section
variable {own : Nat → Prop} {ρ : List Loc} {h : Hp} {w : World}
theorem HRel.gc (H : HRel own ρ h w) {J : List Nat} (hn : J.Nodup) (hJ : ∀ id ∈ J, id < h.length) : HRel own (pickR ρ J) (gcR J h) w := by
  have gt : ∀ {k : Nat} {B' : Blk} {l : Loc}, (gcR J h)[k]? = some B' → (pickR ρ J)[k]? = some l → ∃ (id : Nat) (B : Blk), J[k]? = some id ∧ h[id]? = some B ∧ ρ[id]? = some l ∧ B' = reB (posOf J) B := by
    intro k B' l e1 e2
    simp only [gcR, pickR, List.getElem?_map, Option.map_eq_some_iff] at e1 e2
    obtain ⟨id, k1, k2⟩ := e1
    obtain ⟨id', k3, k4⟩ := e2
    obtain rfl : id = id' := Option.some.inj (k1.symm.trans k3)
    have hid := hJ id (List.mem_of_getElem? k1)
    have hid' : id < ρ.length := by rw [H.len]; exact hid
    rw [List.getD_eq_getElem?_getD, List.getElem?_eq_getElem hid, Option.getD_some] at k2
    rw [locOf, List.getElem?_eq_getElem hid', Option.getD_some] at k4
    exact ⟨id, _, k1, List.getElem?_eq_getElem hid, by rw [List.getElem?_eq_getElem hid', k4], k2.symm⟩
  have hf : ∀ id k l, posOf J id = some k → ρ[id]? = some l → (pickR ρ J)[k]? = some l := fun id k l h1 h2 => pick_get h1 h2
  refine ⟨H.glob, by simp [pickR, gcR], H.fresh, fun k B' l h1 h2 => ?_, fun k B' l h1 h2 h3 => ?_, fun k B' l h1 h2 h3 => ?_, fun i j Bi Bj li lj h1 h2 h3 h4 h5 h6 h7 => ?_⟩
  · obtain ⟨id, B, _, hB, hl, rfl⟩ := gt h1 h2
    exact (H.blk id B l hB hl).reB hf
  · obtain ⟨id, B, _, hB, hl, rfl⟩ := gt h1 h2
    rw [reB_wr] at h3
    exact H.ours id B l hB hl h3
  · obtain ⟨id, B, _, hB, hl, rfl⟩ := gt h1 h2
    rw [reB_solid] at h3
    exact H.lt id B l hB hl h3
  · obtain ⟨a, B, ja, hB, hl, rfl⟩ := gt h1 h3
    obtain ⟨b, B', jb, hB', hl', rfl⟩ := gt h2 h4
    rw [reB_wr] at h6
    rw [reB_solid] at h7
    refine H.sep a b B B' li lj hB hB' hl hl' (fun e => h5 ?_) h6 h7
    subst e
    have hi := (List.getElem?_eq_some_iff.1 ja)
    have hj := (List.getElem?_eq_some_iff.1 jb)
    obtain ⟨hi1, hi2⟩ := hi
    obtain ⟨hj1, hj2⟩ := hj
    have hp := List.pairwise_iff_getElem.1 hn
    rcases Nat.lt_trichotomy i j with hlt | heq | hgt
    · exact absurd (hi2.trans hj2.symm) (hp i j hi1 hj1 hlt)
    · exact heq
    · exact absurd (hj2.trans hi2.symm) (hp j i hj1 hi1 hgt)
end
theorem Wk.gc {k : Nat} {t t' : List AV} {h h' : Hp} (J : List Nat) (hn : J.Nodup) (hJ : J.all (fun id => decide (id < h.length)) = true) (hk : J.take k = List.range k) (hh : gcR J h = h') (ht : Less (reAs (posOf J) t) t') : Wk k ⟨t, h⟩ ⟨t', h'⟩ := by
  constructor
  intro own ρ w vs H hv
  have hJ' : ∀ id ∈ J, id < h.length := fun id hid => by simpa using List.all_eq_true.1 hJ id hid
  have hf : ∀ id k l, posOf J id = some k → ρ[id]? = some l → (pickR ρ J)[k]? = some l := fun id k l h1 h2 => pick_get h1 h2
  refine ⟨pickR ρ J, hh ▸ H.gc hn hJ', ht.rel (hv.reAs hf), fun i l hi hl => ?_⟩
  have h1 : J[i]? = some i := by
    have h2 : (J.take k)[i]? = J[i]? := List.getElem?_take_of_lt hi
    rw [← h2, hk]; simp [hi]
  simp [pickR, List.getElem?_map, h1, locOf, hl]

section
variable {P : Program}
theorem Run.calls {k : Nat} {f : FuncId} {fn : Func} {c : Code} {args : List AV} {h : Hp} {R : AV → Hp → Prop} (hf : P.funcs[f]? = some fn) (hb : fn.body = some c)
    (hr : Run P k c ⟨args ++ List.replicate (fn.ntmps - args.length) und, h⟩ fun ex s' => (∀ i, ex ≠ .x i) ∧ ∃ rs, resultsA P s' fn.results.toList = some rs ∧ R (joinA rs) s'.h)
    {own : Nat → Prop} {ρ : List Loc} {w : World} {vs : List Value} (H : HRel own ρ h w) (ha : VRels ρ args vs) :
    Calls P f vs.toArray w fun e w' => ∃ ρ' z r h', R r h' ∧ e = .returned z ∧ HRel own ρ' h' w' ∧ VRel ρ' r z ∧ Pin k ρ ρ' ∧ Keeps own w w' := by
  refine calls_of_wp hf hb ?_
  have ht : VRels ρ (args ++ List.replicate (fn.ntmps - args.length) und) (vs.toArray ++ Array.replicate (fn.ntmps - vs.toArray.size) undef).toList := by
    rw [Array.toList_append, Array.toList_replicate]
    refine ha.append ?_
    have : vs.toArray.size = args.length := by simpa using ha.length
    rw [this]
    have hrep : ∀ n : Nat, VRels ρ (List.replicate n und) (List.replicate n undef) := by
      intro n
      induction n with
      | zero => rfl
      | succ n ih => exact ⟨_, _, rfl, und_rel, ih⟩
    exact hrep _
  refine wp_mono (hr own ρ { tmps := vs.toArray ++ Array.replicate (fn.ntmps - vs.toArray.size) undef, defers := [] } w H ht) fun e a' w' hp => ?_
  obtain ⟨ex, s', ρ', ⟨q1, rs, q2, q3⟩, k1, k2, k3, k4, k5, k6⟩ := hp
  obtain ⟨z, hz, hrun⟩ := results_run k2 k3 q2
  cases ex with
  | x i => exact absurd rfl (q1 i)
  | n => cases e <;> first | exact k1.elim | exact ⟨k6, z, hrun, ρ', z, _, _, q3, rfl, k2, hz, k4, k5⟩
  | r => cases e <;> first | exact k1.elim | exact ⟨k6, z, hrun, ρ', z, _, _, q3, rfl, k2, hz, k4, k5⟩
def SoundF (P : Program) (f : FuncId) (C : List AV → Hp → Option (AV × Hp)) : Prop := ∀ args h r h', C args h = some (r, h') → ∀ own ρ w vs, HRel own ρ h w → VRels ρ args vs →
  Calls P f vs.toArray w fun e w' => ∃ σ z, e = .returned z ∧ HRel own (ρ ++ σ) h' w' ∧ VRel (ρ ++ σ) r z ∧ Keeps own w w'
def backN (J : List Nat) (n : Nat) : Nat → Option Nat := fun i => if i < J.length then J[i]? else some (n + (i - J.length))
theorem laid_core {own : Nat → Prop} {ρ ρ' : List Loc} {h h0 new : Hp} {w w' : World} {J : List Nat} {r : AV} {z : Value} (H : HRel own ρ h w) (hJ : ∀ id ∈ J, id < h.length)
    (hnew : new.all (fun B => B.wrB && match B with | .cells c _ => AV.unders 0 c | _ => false) = true) (hl0 : h0.length = J.length) (k1 : HRel (w.heap.size ≤ ·) ρ' (h0 ++ new) w') (k2 : VRel ρ' r z)
    (k3 : Pin J.length (pickR ρ J) ρ') (k4 : Keeps (w.heap.size ≤ ·) w w') : ∃ σ, HRel own (ρ ++ σ) (h ++ new) w' ∧ VRel (ρ ++ σ) (reA (backN J h.length) r) z ∧ Keeps own w w' := by
  · have old : ∀ b, b < w.heap.size → w'.heap[b]? = w.heap[b]? := fun b hb => k4.block b (by omega)
    have hlen' := k1.len
    rw [List.length_append, hl0] at hlen'
    -- the new rows
    have hd : (ρ'.drop J.length).length = new.length := by rw [List.length_drop]; omega
    have hnw : ∀ (i : Nat) B, new[i]? = some B → B.wrB = true ∧ ∃ c wr, B = .cells c wr ∧ AV.unders 0 c = true := by
      intro i B hB
      have := List.all_eq_true.1 hnew B (List.mem_of_getElem? hB)
      simp only [Bool.and_eq_true] at this
      cases B with
      | cells c wr => exact ⟨this.1, c, wr, rfl, this.2⟩
      | _ => simp at this
    have hnk : ∀ (i : Nat) B l, new[i]? = some B → (ρ'.drop J.length)[i]? = some l → (h0 ++ new)[J.length + i]? = some B ∧ ρ'[J.length + i]? = some l := by
      intro i B l h1 h2
      refine ⟨?_, by rw [List.getElem?_drop] at h2; exact h2⟩
      rw [List.getElem?_append_right (by omega)]
      have : J.length + i - h0.length = i := by omega
      rw [this]; exact h1
    have both : ∀ {id : Nat} {B : Blk} {l : Loc}, (h ++ new)[id]? = some B → (ρ ++ ρ'.drop J.length)[id]? = some l → (h[id]? = some B ∧ ρ[id]? = some l) ∨ (∃ i, id = h.length + i ∧ new[i]? = some B ∧ (ρ'.drop J.length)[i]? = some l) := by
      intro id B l h1 h2
      by_cases hid : id < h.length
      · rw [List.getElem?_append_left hid] at h1
        rw [List.getElem?_append_left (by rw [H.len]; exact hid)] at h2
        exact .inl ⟨h1, h2⟩
      · rw [List.getElem?_append_right (by omega)] at h1
        rw [List.getElem?_append_right (by rw [H.len]; omega), H.len] at h2
        exact .inr ⟨id - h.length, by omega, h1, h2⟩
    refine ⟨ρ'.drop J.length, ?_, ?_, ⟨k4.os, k4.tape, k4.output, k4.size, fun b hb => k4.block b fun hle => hb (H.fresh b hle)⟩⟩
    · refine ⟨H.glob.keep k4.size (fun b _ hb => old b hb), by rw [List.length_append, List.length_append, H.len, hd], fun b hb => H.fresh b (Nat.le_trans k4.size hb), fun id B l m1 m2 => ?_, fun id B l m1 m2 m3 => ?_, fun id B l m1 m2 m3 => ?_, fun i j Bi Bj li lj m1 m2 m3 m4 m5 m6 m7 => ?_⟩
      · rcases both m1 m2 with ⟨n1, n2⟩ | ⟨i, rfl, n1, n2⟩
        · exact ((H.blk id B l n1 n2).old fun hs => old _ (H.lt id B l n1 n2 hs)).more _
        · obtain ⟨p1, p2⟩ := hnk i B l n1 n2
          obtain ⟨_, c, wr, rfl, hu⟩ := hnw i B n1
          have hb := k1.blk _ _ l p1 p2
          refine ⟨hb.1, fun j a hj => ?_, hb.2.2⟩
          obtain ⟨v, hv, hr⟩ := hb.2.1 j a hj
          refine ⟨v, hv, ?_⟩
          have h00 : VRel [] a v := VRel.less (ρ := []) (σ := ρ') (by simpa using unders_get hu hj) (by simpa using hr)
          have := h00.more (ρ := []) (ρ ++ ρ'.drop J.length)
          simpa using this
      · rcases both m1 m2 with ⟨n1, n2⟩ | ⟨i, rfl, n1, n2⟩
        · exact H.ours id B l n1 n2 m3
        · obtain ⟨p1, p2⟩ := hnk i B l n1 n2
          exact H.fresh _ (k1.ours _ _ l p1 p2 m3)
      · rcases both m1 m2 with ⟨n1, n2⟩ | ⟨i, rfl, n1, n2⟩
        · exact Nat.lt_of_lt_of_le (H.lt id B l n1 n2 m3) k4.size
        · obtain ⟨p1, p2⟩ := hnk i B l n1 n2
          exact k1.lt _ _ l p1 p2 m3
      · rcases both m1 m3 with ⟨a1, a2⟩ | ⟨i, rfl, a1, a2⟩ <;> rcases both m2 m4 with ⟨b1, b2⟩ | ⟨j, rfl, b1, b2⟩
        · exact H.sep i j Bi Bj li lj a1 b1 a2 b2 m5 m6 m7
        · obtain ⟨p1, p2⟩ := hnk j Bj lj b1 b2
          have hs : Bi.solid = true := solid_of_wr m6
          have := H.lt i Bi li a1 a2 hs
          have := k1.ours _ _ lj p1 p2 (hnw j Bj b1).1
          omega
        · obtain ⟨p1, p2⟩ := hnk i Bi li a1 a2
          have := H.lt j Bj lj b1 b2 m7
          have := k1.ours _ _ li p1 p2 m6
          omega
        · obtain ⟨p1, p2⟩ := hnk i Bi li a1 a2
          obtain ⟨q1, q2⟩ := hnk j Bj lj b1 b2
          exact k1.sep _ _ Bi Bj li lj p1 q1 p2 q2 (by omega) m6 m7
    · refine k2.reA fun id k l hk hl => ?_
      unfold backN at hk
      split at hk
      · rename_i hlt
        obtain ⟨jd, hjd⟩ : ∃ jd, J[id]? = some jd := ⟨J[id], List.getElem?_eq_getElem hlt⟩
        obtain rfl : jd = k := Option.some.inj (hjd.symm.trans hk)
        have hjl := hJ jd (List.mem_of_getElem? hjd)
        have h1 : (pickR ρ J)[id]? = ρ[jd]? := by
          have hjl' : jd < ρ.length := by rw [H.len]; exact hjl
          simp [pickR, List.getElem?_map, hjd, locOf, List.getElem?_eq_getElem hjl']
        have hjl' : jd < ρ.length := by rw [H.len]; exact hjl
        have h2 := k3 id ρ[jd] hlt (by rw [h1]; exact List.getElem?_eq_getElem hjl')
        rw [List.getElem?_append_left hjl', List.getElem?_eq_getElem hjl', ← h2, hl]
      · rename_i hge
        obtain rfl := Option.some.inj hk
        rw [List.getElem?_append_right (by rw [H.len]; omega), H.len]
        have : h.length + (id - J.length) - h.length = id - J.length := by omega
        rw [this, List.getElem?_drop]
        have : J.length + (id - J.length) = id := by omega
        rw [this]; exact hl
def with1 (f : FuncId) (C : List AV → Hp → Option (AV × Hp)) (Γ : Env) : Env := fun g args h => if g = f then C args h else Γ g args h
theorem with1_ext {f : FuncId} {C : List AV → Hp → Option (AV × Hp)} {Γ : Env} (hC : ∀ args h r h', C args h = some (r, h') → ExtRuns P f args h r h') (hΓ : Sound P Γ) : Sound P (with1 f C Γ) := by
  intro g args h r h' he
  unfold with1 at he
  split at he
  · rename_i e; subst e; exact .inr (hC args h r h' he)
  · exact hΓ g args h r h' he
theorem with1_sound {f : FuncId} {C : List AV → Hp → Option (AV × Hp)} {Γ : Env} (hf : FnOk P f) (hC : SoundF P f C) (hΓ : Sound P Γ) : Sound P (with1 f C Γ) := by
  intro g args h r h' he
  unfold with1 at he
  split at he
  · rename_i e; subst e; exact .inl ⟨hf, fun own ρ w vs => hC args h r h' he own ρ w vs⟩
  · exact hΓ g args h r h' he
end
end Go.Proofs.Ytnfbgfmdjaodgaa.Eng
