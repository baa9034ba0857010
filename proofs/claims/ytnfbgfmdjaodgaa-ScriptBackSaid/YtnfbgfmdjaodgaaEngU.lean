/- Contracts of functions, by relations. -/
import Derived.Test.YtnfbgfmdjaodgaaEngT
set_option linter.unusedVariables false
set_option linter.unusedSimpArgs false
namespace Go.Proofs.Ytnfbgfmdjaodgaa.Eng
open Go.RowKit

abbrev Rel := List AV → Hp → AV → Hp → Prop
open Classical in
noncomputable def Cof (S : Rel) : List AV → Hp → Option (AV × Hp) := fun args h => if ex : ∃ q : AV × Hp, S args h q.1 q.2 then some ex.choose else none
theorem Cof_spec {S : Rel} {args : List AV} {h h' : Hp} {r : AV} (e : Cof S args h = some (r, h')) : S args h r h' := by
  unfold Cof at e
  split at e
  · rename_i ex
    have := ex.choose_spec
    rw [Option.some.inj e] at this
    exact this
  · cases e
def Det (S : Rel) : Prop := ∀ args h r h' r2 h2, S args h r h' → S args h r2 h2 → r = r2 ∧ h' = h2
theorem Cof_of {S : Rel} (hd : Det S) {args : List AV} {h h' : Hp} {r : AV} (e : S args h r h') : Cof S args h = some (r, h') := by
  unfold Cof
  have ex : ∃ q : AV × Hp, S args h q.1 q.2 := ⟨(r, h'), e⟩
  rw [dif_pos ex]
  obtain ⟨h1, h2⟩ := hd _ _ _ _ _ _ ex.choose_spec e
  exact congrArg some (Prod.ext h1 h2)
theorem follows_of {S : Rel} {t : List AV → Hp → (AV → Hp → Prop) → Prop} (hd : Det S) (ht : ∀ args h K, t args h K → ∃ r h', S args h r h' ∧ K r h') : FollowsF t (Cof S) := by
  intro args h K hk
  obtain ⟨r, h', h1, h2⟩ := ht args h K hk
  exact ⟨r, h', Cof_of hd h1, h2⟩
mutual
theorem ren_flat (J : List Nat) : ∀ {a : AV}, a.under 0 = true → ren J a = a
  | .bad, _ => rfl
  | .bo _, _ => rfl
  | .i _ _, _ => rfl
  | .s _, _ => rfl
  | .pn, _ => rfl
  | .p _ _, h => by simp [AV.under] at h
  | .sn, _ => rfl
  | .sl _ _ _ _ _, h => by simp [AV.under] at h
  | .mn, _ => rfl
  | .m _, h => by simp [AV.under] at h
  | .nf, _ => rfl
  | .ni, _ => rfl
  | .ic t x, h => by rw [ren, ren_flat J (a := x) (by simpa [AV.under] using h)]
  | .fn g c, h => by rw [ren, rens_flat J (as := c) (by simpa [AV.under] using h)]
  | .ag x, h => by rw [ren, rens_flat J (as := x) (by simpa [AV.under] using h)]
  | .tu x, h => by rw [ren, rens_flat J (as := x) (by simpa [AV.under] using h)]
theorem rens_flat (J : List Nat) : ∀ {as : List AV}, AV.unders 0 as = true → rens J as = as
  | [], _ => rfl
  | x :: xs, h => by
    have h' : AV.under 0 x = true ∧ AV.unders 0 xs = true := by simpa [AV.unders] using h
    rw [rens, ren_flat J (a := x) h'.1, rens_flat J (as := xs) h'.2]
end
theorem rens_eq_map (J : List Nat) : ∀ (c : List AV), rens J c = c.map (ren J)
  | [] => rfl
  | x :: xs => by rw [rens, List.map_cons, rens_eq_map J xs]
def Splain {α : Type} (mk : α → List AV) (ok : α → Prop) (rr : α → AV) : Rel := fun args h r h' => h' = h ∧ ∃ x, args = mk x ∧ ok x ∧ r = rr x
theorem Splain.det {α : Type} {mk : α → List AV} {ok : α → Prop} {rr : α → AV} (hi : ∀ x y, mk x = mk y → x = y) : Det (Splain mk ok rr) := by
  rintro args h r h' r2 h2 ⟨rfl, x, rfl, _, rfl⟩ ⟨rfl, y, e, _, rfl⟩
  exact ⟨by rw [hi _ _ e], rfl⟩
def Slist {α : Type} (mk : α → AV) (ok : List α → Prop) (rr : List α → AV) : Rel := fun args h r h' => h' = h ∧ ((args = [.sn] ∧ ok [] ∧ r = rr []) ∨
  ∃ (id off len : Nat) (cap : Option Nat) (c : List AV) (wr : Bool) (l : List α), args = [.sl id off len 1 cap] ∧ hcells h id = some (c, wr) ∧ (c.drop off).take len = l.map mk ∧ l.length = len ∧ ok l ∧ r = rr l)
theorem map_inj {α : Type} {mk : α → AV} (hi : ∀ x y, mk x = mk y → x = y) : ∀ {l m : List α}, l.map mk = m.map mk → l = m
  | [], [], _ => rfl
  | [], y :: m, h => by simp at h
  | x :: l, [], h => by simp at h
  | x :: l, y :: m, h => by
    simp only [List.map_cons, List.cons.injEq] at h
    rw [hi _ _ h.1, map_inj hi h.2]
theorem Slist.det {α : Type} {mk : α → AV} {ok : List α → Prop} {rr : List α → AV} (hi : ∀ x y, mk x = mk y → x = y) : Det (Slist mk ok rr) := by
  rintro args h r h' r2 h2 ⟨rfl, h1⟩ ⟨rfl, h2⟩
  refine ⟨?_, rfl⟩
  rcases h1 with ⟨rfl, _, rfl⟩ | ⟨id, off, len, cap, c, wr, l, rfl, k1, k2, k3, k4, rfl⟩ <;> rcases h2 with ⟨e, _, rfl⟩ | ⟨id', off', len', cap', c', wr', l', e, m1, m2, m3, m4, rfl⟩
  · rfl
  · simp at e
  · simp at e
  · simp only [List.cons.injEq, AV.sl.injEq, and_true] at e
    obtain ⟨rfl, rfl, rfl, _, rfl⟩ := e
    rw [k1] at m1
    simp only [Option.some.injEq, Prod.mk.injEq] at m1
    obtain ⟨rfl, rfl⟩ := m1
    rw [map_inj hi (k2.symm.trans m2)]
def tlist {α : Type} (mk : α → AV) (ok : List α → Prop) (rr : List α → AV) (args : List AV) (h : Hp) (K : AV → Hp → Prop) : Prop := match args with
  | [.sn] => Holds (ok []) ∧ K (rr []) h
  | [.sl id off len esz _] => br (decide (esz = 1)) (optQ (hcells h id) fun q => ∃ l : List α, Holds ((q.1.drop off).take len = l.map mk) ∧ Holds (l.length = len) ∧ Holds (ok l) ∧ K (rr l) h) False
  | _ => False
theorem tlist_follows {α : Type} {mk : α → AV} {ok : List α → Prop} {rr : List α → AV} (hi : ∀ x y, mk x = mk y → x = y) : FollowsF (tlist mk ok rr) (Cof (Slist mk ok rr)) := by
  refine follows_of (Slist.det hi) fun args h K hk => ?_
  unfold tlist at hk
  split at hk
  · exact ⟨_, _, ⟨rfl, .inl ⟨rfl, hk.1.out, rfl⟩⟩, hk.2⟩
  · rename_i id off len esz cap
    obtain ⟨he, hk⟩ := br_false_right hk
    obtain rfl : esz = 1 := by simpa using he
    obtain ⟨⟨c, wr⟩, hc, l, h1, h2, h3, h4⟩ := optQ_spec hk
    exact ⟨_, _, ⟨rfl, .inr ⟨id, off, len, cap, c, wr, l, rfl, hc, h1.out, h2.out, h3.out, rfl⟩⟩, h4⟩
  · exact hk.elim
theorem cell_of {α : Type} {mk : α → AV} {c : List AV} {off len : Nat} {l : List α} (h : (c.drop off).take len = l.map mk) (hl : l.length = len) {i : Nat} (hi : i < l.length) : c[off + i]? = some (mk l[i]) := by
  have h1 : ((c.drop off).take len)[i]? = c[off + i]? := by
    rw [List.getElem?_take_of_lt (by omega), List.getElem?_drop]
  rw [← h1, h, List.getElem?_map, List.getElem?_eq_getElem hi]; rfl
section
variable {P : Program} {T : TEnv} {W : Nat → Option Road} {Γ : Env}
theorem SoundF.plain (hT : Follows T Γ) (hΓ : Sound P Γ) (hm : P.follows .mixedOrders = true) {f : FuncId} {fn : Func} (hf : fnOk1 P W f fn) {α : Type} {mk : α → List AV} {ok : α → Prop} {rr : α → AV}
    (hu : ∀ x, AV.unders 0 (mk x) = true) (hr : ∀ x, (rr x).under 0 = true) (hrun : ∀ x, ok x → ∃ (LA : Nat → Option Head) (k : Nat), wpFn P T W LA k fn (mk x) [] fun v _ => v = rr x) : SoundF P f (Cof (Splain mk ok rr)) := by
  refine SoundF.flat hT hΓ hm hf fun args h r h' he => ?_
  obtain ⟨rfl, x, rfl, hok, rfl⟩ := Cof_spec he
  obtain ⟨LA, k, hw⟩ := hrun x hok
  refine ⟨rfl, hr x, [], LA, k, by simp, ?_⟩
  rw [rens_flat _ (hu x)]
  exact hw
theorem SoundF.plainH (hT : Follows T Γ) (hΓ : Sound P Γ) (hm : P.follows .mixedOrders = true) {f : FuncId} {fn : Func} (hf : fnOk1 P W f fn) {α : Type} {mk : α → List AV} {ok : α → Prop} {rr : α → AV}
    (hu : ∀ x, AV.unders 0 (mk x) = true) (hr : ∀ x, (rr x).under 0 = true) (LA : Nat → Option Head) (hrun : ∀ x, ok x → Holds (wpFn P T W LA 0 fn (mk x) [] fun v _ => v = rr x)) : SoundF P f (Cof (Splain mk ok rr)) :=
  SoundF.plain hT hΓ hm hf hu hr fun x hx => ⟨LA, 0, (hrun x hx).out⟩
theorem SoundF.list (hT : Follows T Γ) (hΓ : Sound P Γ) (hm : P.follows .mixedOrders = true) {f : FuncId} {fn : Func} (hf : fnOk1 P W f fn) {α : Type} {mk : α → AV} {ok : List α → Prop} {rr : List α → AV}
    (hu : ∀ x, (mk x).under 0 = true) (hr : ∀ x, (rr x).under 0 = true) (hnil : ok [] → ∃ (LA : Nat → Option Head) (k : Nat), wpFn P T W LA k fn [.sn] [] fun v _ => v = rr [])
    (hrun : ∀ (off len : Nat) (cap : Option Nat) (c : List AV) (l : List α), (c.drop off).take len = l.map mk → l.length = len → ok l → ∃ (LA : Nat → Option Head) (k : Nat), wpFn P T W LA k fn [.sl 0 off len 1 cap] [.cells c false] fun v _ => v = rr l) : SoundF P f (Cof (Slist mk ok rr)) := by
  refine SoundF.flat hT hΓ hm hf fun args h r h' he => ?_
  obtain ⟨rfl, ⟨rfl, hok, rfl⟩ | ⟨id, off, len, cap, c, wr, l, rfl, k1, k2, k3, k4, rfl⟩⟩ := Cof_spec he
  · obtain ⟨LA, k, hw⟩ := hnil hok
    exact ⟨rfl, hr _, [], LA, k, by simp, hw⟩
  · have hg := hcells_some k1
    have hid := (List.getElem?_eq_some_iff.1 hg).1
    have hc : ((rens [id] c).drop off).take len = l.map mk := by
      rw [rens_eq_map, ← List.map_drop, ← List.map_take, k2, List.map_map]
      apply List.map_congr_left
      intro x _
      exact ren_flat _ (hu x)
    obtain ⟨LA, k, hw⟩ := hrun off len cap (rens [id] c) l hc k3 k4
    refine ⟨rfl, hr _, [id], LA, k, by simpa using hid, ?_⟩
    have e1 : rens [id] [AV.sl id off len 1 cap] = [.sl 0 off len 1 cap] := by simp [rens, ren, posOf]
    have e2 : pickH h' [id] = [.cells (rens [id] c) false] := by simp [pickH, hg, renB]
    rw [e1, e2]
    exact hw
def newRow {α : Type} (mk : α → AV) (l : List α) (h : Hp) (r : AV) (h' : Hp) : Prop := (l = [] ∧ r = .sn ∧ h' = h) ∨ (l ≠ [] ∧ r = .sl h.length 0 l.length 1 none ∧ h' = h ++ [.cells (l.map mk) true])
def Smake {α β : Type} (mk : α → List AV) (ok : α → Prop) (el : β → AV) (rr : α → List β) : Rel := fun args h r h' => ∃ x, args = mk x ∧ ok x ∧ newRow el (rr x) h r h'
theorem Smake.det {α β : Type} {mk : α → List AV} {ok : α → Prop} {el : β → AV} {rr : α → List β} (hi : ∀ x y, mk x = mk y → x = y) : Det (Smake mk ok el rr) := by
  rintro args h r h' r2 h2 ⟨x, rfl, _, hx⟩ ⟨y, e, _, hy⟩
  obtain rfl := hi _ _ e
  rcases hx with ⟨a1, rfl, rfl⟩ | ⟨a1, rfl, rfl⟩ <;> rcases hy with ⟨b1, rfl, rfl⟩ | ⟨b1, rfl, rfl⟩
  · exact ⟨rfl, rfl⟩
  · exact absurd a1 b1
  · exact absurd b1 a1
  · exact ⟨rfl, rfl⟩
theorem SoundF.make (hT : Follows T Γ) (hΓ : Sound P Γ) (hm : P.follows .mixedOrders = true) {f : FuncId} {fn : Func} (hf : fnOk1 P W f fn) {α β : Type} {mk : α → List AV} {ok : α → Prop} {el : β → AV} {rr : α → List β}
    (hu : ∀ x, AV.unders 0 (mk x) = true) (he : ∀ x, (el x).under 0 = true)
    (hrun : ∀ x, ok x → ∀ R : AV → Hp → Prop, (rr x = [] → ∀ h1, R .sn h1) → (rr x ≠ [] → ∀ v h1, Wk 0 ⟨[v], h1⟩ ⟨[.sl 0 0 (rr x).length 1 none], [.cells ((rr x).map el) true]⟩ → R v h1) → ∃ (LA : Nat → Option Head), wpFn P T W LA 0 fn (mk x) [] R) : SoundF P f (Cof (Smake mk ok el rr)) := by
  refine SoundF.laid hT hΓ hm hf fun args h r h' hc => ?_
  obtain ⟨x, rfl, hok, hn⟩ := Cof_spec hc
  rcases hn with ⟨a1, rfl, rfl⟩ | ⟨a1, rfl, rfl⟩
  · obtain ⟨LA, hw⟩ := hrun x hok (fun v h1 => ∃ t1 h0, h0.length = ([] : List Nat).length ∧ Wk ([] : List Nat).length ⟨[v], h1⟩ ⟨[t1], h0 ++ []⟩ ∧ t1 = .sn) (fun _ h1 => ⟨.sn, [], rfl, Wk.rows [] List.nodup_nil rfl rfl rfl rfl, rfl⟩) (fun hne => absurd a1 hne)
    exact ⟨[], LA, .sn, [], by simp, rfl, by simp, rfl, by rw [rens_flat _ (hu x)]; exact hw⟩
  · obtain ⟨LA, hw⟩ := hrun x hok (fun v h1 => ∃ t1 h0, h0.length = ([] : List Nat).length ∧ Wk ([] : List Nat).length ⟨[v], h1⟩ ⟨[t1], h0 ++ [.cells ((rr x).map el) true]⟩ ∧ t1 = .sl 0 0 (rr x).length 1 none) (fun e => absurd e a1) (fun _ v h1 hk => ⟨_, [], rfl, hk, rfl⟩)
    refine ⟨[], LA, .sl 0 0 (rr x).length 1 none, [.cells ((rr x).map el) true], by simp, ?_, rfl, ?_, by rw [rens_flat _ (hu x)]; exact hw⟩
    · simp [reA, backN]
    · simp only [List.all_cons, List.all_nil, Bool.and_true, Blk.wrB, Bool.true_and]
      exact unders_map 0 el he _
theorem wpFn_true (hT : Follows T Γ) (hΓ : Sound P Γ) (hm : P.follows .mixedOrders = true) {f : FuncId} {fn : Func} (hf : fnOk1 P W f fn) {LA : Nat → Option Head} {k : Nat} {args : List AV} {h : Hp} (hw : wpFn P T W LA k fn args h fun v _ => v = .bo true)
    {ρ : List Loc} {w : World} {vs : List Value} (H : HRel (w.heap.size ≤ ·) ρ h w) (ha : VRels ρ args vs) : Calls P f vs.toArray w fun e w' => e = .returned (.bool true) ∧ Below w.heap.size w w' := by
  refine (wpFn_calls hT hΓ hm hf hw H ha).mono fun e w' hp => ?_
  obtain ⟨ρ', z, r, h', rfl, rfl, _, h2, _, h4⟩ := hp
  cases h2
  exact ⟨rfl, h4.below⟩
theorem wpFn_trueH (hT : Follows T Γ) (hΓ : Sound P Γ) (hm : P.follows .mixedOrders = true) {f : FuncId} {fn : Func} (hf : fnOk1 P W f fn) {LA : Nat → Option Head} {k : Nat} {args : List AV} {h : Hp} (hw : Holds (wpFn P T W LA k fn args h fun v _ => v = .bo true))
    {ρ : List Loc} {w : World} {vs : List Value} (H : HRel (w.heap.size ≤ ·) ρ h w) (ha : VRels ρ args vs) : Calls P f vs.toArray w fun e w' => e = .returned (.bool true) ∧ Below w.heap.size w w' := wpFn_true hT hΓ hm hf hw.out H ha
theorem HRel.none (w : World) (hG : Glob (w.heap.size ≤ ·) w := by exact Glob.nil rfl trivial) : HRel (w.heap.size ≤ ·) [] [] w := ⟨hG, rfl, fun _ h => h, fun _ _ _ h => by simp at h, fun _ _ _ h => by simp at h, fun _ _ _ h => by simp at h, fun _ _ _ _ _ _ h => by simp at h⟩
def Sfault {α : Type} (mk : α → List AV) (ok good : α → Prop) (rr : α → AV) (ee : α → Nat → AV) (row : α → List AV) : Rel := fun args h r h' => ∃ x, args = mk x ∧ ok x ∧ ((good x ∧ r = rr x ∧ h' = h) ∨ (¬ good x ∧ r = ee x h.length ∧ h' = h ++ [.cells (row x) true]))
theorem Sfault.det {α : Type} {mk : α → List AV} {ok good : α → Prop} {rr : α → AV} {ee : α → Nat → AV} {row : α → List AV} (hi : ∀ x y, mk x = mk y → x = y) : Det (Sfault mk ok good rr ee row) := by
  rintro args h r h' r2 h2 ⟨x, rfl, _, hx⟩ ⟨y, e, _, hy⟩
  obtain rfl := hi _ _ e
  rcases hx with ⟨a1, rfl, rfl⟩ | ⟨a1, rfl, rfl⟩ <;> rcases hy with ⟨b1, rfl, rfl⟩ | ⟨b1, rfl, rfl⟩
  · exact ⟨rfl, rfl⟩
  · exact absurd a1 b1
  · exact absurd b1 a1
  · exact ⟨rfl, rfl⟩
theorem SoundF.fault (hT : Follows T Γ) (hΓ : Sound P Γ) (hm : P.follows .mixedOrders = true) {f : FuncId} {fn : Func} (hf : fnOk1 P W f fn) {α : Type} {mk : α → List AV} {ok good : α → Prop} {rr : α → AV} {ee : α → Nat → AV} {row : α → List AV}
    (hu : ∀ x, AV.unders 0 (mk x) = true) (hr : ∀ x, (rr x).under 0 = true) (he : ∀ x n, ee x n = reA (backN [] n) (ee x 0)) (hw : ∀ x, AV.unders 0 (row x) = true) (LA : Nat → Option Head)
    (hrun : ∀ x, ok x → ∀ R : AV → Hp → Prop, (good x → ∀ h1, R (rr x) h1) → (¬ good x → ∀ v h1, Wk 0 ⟨[v], h1⟩ ⟨[ee x 0], [.cells (row x) true]⟩ → R v h1) → Holds (wpFn P T W LA 0 fn (mk x) [] R)) : SoundF P f (Cof (Sfault mk ok good rr ee row)) := by
  refine SoundF.laid hT hΓ hm hf fun args h r h' hc => ?_
  obtain ⟨x, rfl, hok, hn⟩ := Cof_spec hc
  rcases hn with ⟨a1, rfl, rfl⟩ | ⟨a1, rfl, rfl⟩
  · have hw' := (hrun x hok (fun v h1 => ∃ t1 h0, h0.length = ([] : List Nat).length ∧ Wk ([] : List Nat).length ⟨[v], h1⟩ ⟨[t1], h0 ++ []⟩ ∧ t1 = rr x) (fun _ h1 => ⟨rr x, [], rfl, Wk.rows [] List.nodup_nil rfl rfl rfl (by rw [reAs, reAs, reA_flat _ (hr x)]), rfl⟩) (fun hne => absurd a1 hne)).out
    exact ⟨[], LA, rr x, [], by simp, (reA_flat _ (hr x)).symm, by simp, rfl, by rw [rens_flat _ (hu x)]; exact hw'⟩
  · have hw' := (hrun x hok (fun v h1 => ∃ t1 h0, h0.length = ([] : List Nat).length ∧ Wk ([] : List Nat).length ⟨[v], h1⟩ ⟨[t1], h0 ++ [.cells (row x) true]⟩ ∧ t1 = ee x 0) (fun e => absurd e a1) (fun _ v h1 hk => ⟨_, [], rfl, hk, rfl⟩)).out
    refine ⟨[], LA, ee x 0, [.cells (row x) true], by simp, he x _, rfl, ?_, by rw [rens_flat _ (hu x)]; exact hw'⟩
    simp only [List.all_cons, List.all_nil, Bool.and_true, Blk.wrB, Bool.true_and]
    exact hw x
def tfault {α : Type} (un : List AV → Option α) (ok good : α → Prop) (rr : α → AV) (ee : α → Nat → AV) (row : α → List AV) (args : List AV) (h : Hp) (K : AV → Hp → Prop) : Prop :=
  optQ (un args) fun x => Holds (ok x) ∧ (Holds (good x) → K (rr x) h) ∧ (Holds (¬ good x) → K (ee x h.length) (h ++ [.cells (row x) true]))
theorem tfault_f {α : Type} {mk : α → List AV} {un : List AV → Option α} {ok good : α → Prop} {rr : α → AV} {ee : α → Nat → AV} {row : α → List AV} (hi : ∀ x y, mk x = mk y → x = y) (hun : ∀ args x, un args = some x → args = mk x) :
    FollowsF (tfault un ok good rr ee row) (Cof (Sfault mk ok good rr ee row)) := by
  refine follows_of (Sfault.det hi) fun args h K hk => ?_
  obtain ⟨x, hx, h1, h2, h3⟩ := optQ_spec hk
  obtain rfl := hun _ _ hx
  by_cases c : good x
  · exact ⟨_, _, ⟨x, rfl, h1.out, .inl ⟨c, rfl, rfl⟩⟩, h2 ⟨c⟩⟩
  · exact ⟨_, _, ⟨x, rfl, h1.out, .inr ⟨c, rfl, rfl⟩⟩, h3 ⟨c⟩⟩
theorem iter_exec {c : Code} {LA : Nat → Option Head} (ih : ∀ {s : St} {Q : Ex → St → Prop}, wpC P T W LA 0 c s Q → ∃ ex s', exec P Γ W 40 c s = some (ex, s') ∧ Q ex s') : ∀ (n : Nat) {s : St} {Q : Ex → St → Prop},
    iter (fun s Q => wpC P T W LA 0 c s Q) n s Q → ∃ ex s', loopN (exec P Γ W 40 c) n s = some (ex, s') ∧ Q ex s'
  | 0, s, Q, h => h.elim
  | n + 1, s, Q, h => by
    obtain ⟨ex, s', h1, h2⟩ := ih h
    cases ex with
    | n =>
      obtain ⟨ex, s'', h3, h4⟩ := iter_exec ih n h2
      exact ⟨ex, s'', by simp only [loopN, h1, h3], h4⟩
    | x i => exact ⟨.x i, s', by simp only [loopN, h1], h2⟩
    | r => exact ⟨.r, s', by simp only [loopN, h1], h2⟩
theorem wpC_exec (hT : Follows T Γ) : ∀ {c : Code} {s : St} {Q : Ex → St → Prop}, wpC P T W (fun _ => none) 0 c s Q → ∃ ex s', exec P Γ W 40 c s = some (ex, s') ∧ Q ex s'
  | .skip, s, Q, h => ⟨.n, s, rfl, h⟩
  | .label l, s, Q, h => ⟨.n, s, rfl, h⟩
  | .exit i, s, Q, h => ⟨.x i, s, rfl, h⟩
  | .ret, s, Q, h => ⟨.r, s, rfl, h⟩
  | .region id ops draw, s, Q, h => by
    simp only [wpC] at h
    cases draw with
    | true =>
      obtain ⟨s', h1, h2⟩ := wpWay_spec hT h
      rw [forceS_eq] at h2
      exact ⟨.n, s', exec_way h1, h2⟩
    | false =>
      obtain ⟨s', h1, h2⟩ := wpOps_spec hT h
      rw [forceS_eq] at h2
      exact ⟨.n, s', exec_reg h1, h2⟩
  | .seq a b, s, Q, h => by
    simp only [wpC, Option.bind_none] at h
    have hn : ((firstReg b).bind fun r => (none : Option Head)) = none := by cases firstReg b <;> rfl
    rw [hn] at h
    obtain ⟨ex, s', h1, h2⟩ := wpC_exec hT h
    cases ex with
    | n =>
      obtain ⟨ex, s'', h3, h4⟩ := wpC_exec hT h2
      exact ⟨ex, s'', by simp only [exec, h1, h3], h4⟩
    | x i => exact ⟨.x i, s', by simp only [exec, h1], h2⟩
    | r => exact ⟨.r, s', by simp only [exec, h1], h2⟩
  | .cond c x y, s, Q, h => by
    simp only [wpC] at h
    split at h
    · rename_i b hb
      cases b with
      | true =>
        obtain ⟨ex, s', h1, h2⟩ := wpC_exec hT (show wpC P T W (fun _ => none) 0 x s Q from h)
        exact ⟨ex, s', by simp only [exec, hb, h1], h2⟩
      | false =>
        obtain ⟨ex, s', h1, h2⟩ := wpC_exec hT (show wpC P T W (fun _ => none) 0 y s Q from h)
        exact ⟨ex, s', by simp only [exec, hb, h1], h2⟩
    · exact h.elim
  | .block id c, s, Q, h => by
    simp only [wpC] at h
    obtain ⟨ex, s', h1, h2⟩ := wpC_exec hT h
    cases ex with
    | n => exact ⟨.n, s', by simp only [exec, h1], h2⟩
    | r => exact ⟨.r, s', by simp only [exec, h1], h2⟩
    | x i =>
      by_cases e : i = id
      · subst e
        simp only [decide_true] at h2
        exact ⟨.n, s', by simp only [exec, h1, if_true], h2⟩
      · simp only [e, decide_false] at h2
        exact ⟨.x i, s', by simp only [exec, h1, if_neg e], h2⟩
  | .loop c, s, Q, h => by
    simp only [wpC] at h
    have hn : ((firstReg c).bind fun r => (none : Option Head)) = none := by cases firstReg c <;> rfl
    rw [hn] at h
    simp only [exec]
    exact iter_exec (fun h => wpC_exec hT h) 40 h
  | .scope c, s, Q, h => by
    simp only [wpC] at h
    obtain ⟨ex, s', h1, h2⟩ := wpC_exec hT h
    exact ⟨ex, s', by simp only [exec, h1], h2⟩
  | .rangeFunc _ _ _ _, _, _, h => by simp only [wpC] at h
  | .goto _, _, _, h => by simp only [wpC] at h
  | .refuse _, _, _, h => by simp only [wpC] at h
noncomputable def tinl (P : Program) (T : TEnv) (W : Nat → Option Road) (fn : Func) (args : List AV) (h : Hp) (K : AV → Hp → Prop) : Prop := wpFn P T W (fun _ => none) 0 fn args h K
def Cinl (P : Program) (Γ : Env) (W : Nat → Option Road) (fn : Func) : List AV → Hp → Option (AV × Hp) := fun args h => runFn P Γ W 40 fn args h
theorem tinl_f (hT : Follows T Γ) {f : FuncId} {fn : Func} (hf : fnOk1 P W f fn) : FollowsF (tinl P T W fn) (Cinl P Γ W fn) := by
  intro args h K hk
  obtain ⟨ex, s', h1, h2⟩ := wpC_exec hT hk
  cases ex with
  | x i => exact h2.elim
  | n =>
    obtain ⟨rs, h3, h4⟩ := optQ_spec h2
    exact ⟨_, _, by simp only [Cinl, runFn, hf.2.1, h1, h3, Option.map_some], h4⟩
  | r =>
    obtain ⟨rs, h3, h4⟩ := optQ_spec h2
    exact ⟨_, _, by simp only [Cinl, runFn, hf.2.1, h1, h3, Option.map_some], h4⟩
theorem inl_s (hΓ : Sound P Γ) (hm : P.follows .mixedOrders = true) {f : FuncId} {fn : Func} (hf : fnOk1 P W f fn) : SoundF P f (Cinl P Γ W fn) := by
  intro args h r h' he own ρ w vs H ha
  refine runFn_run hΓ hm hf.1 (fun c hc => ?_) he H ha
  rw [hf.2.1] at hc
  cases hc
  exact hf.2.2.2
end
end Go.Proofs.Ytnfbgfmdjaodgaa.Eng
