/- The readers' contracts: the relations, and that runs of the functions over the rows that they reach suffice. -/
import Derived.Test.YtiknpjblmihmkaaDoorNumDef
set_option linter.unusedVariables false
set_option linter.unusedSimpArgs false
open Go Go.Proofs.YtiknpjblmihmkaaDoor.Eng Go.RowKit
namespace Go.Proofs.YtiknpjblmihmkaaDoor.NumRun
section
variable {P : Program} {W : Nat → Option Eng.Road} {Γ : Env}
theorem SoundF.updT (hΓ : Sound P Γ) (hm : P.follows .mixedOrders = true) {f : FuncId} {fn : Func} (hf : fnOk1 P W f fn) {C : List AV → Hp → Option (AV × Hp)}
    (hC : ∀ args h r h', C args h = some (r, h') → ∃ (T : TEnv) (J : List Nat) (LA : Nat → Option Head) (r0 : AV) (upd new : Hp), Follows T Γ ∧ J.Nodup ∧ (∀ id ∈ J, id < h.length) ∧ r = reA (backN J h.length) r0 ∧
      h' = putRows J (upd.map (reB (backN J h.length))) h ++ new.map (reB (backN J h.length)) ∧ new.all (fun B => B.wrB || !B.solid) = true ∧ keepOk (gcR J h) upd = true ∧
      wpFn P T W LA J.length fn (reAs (posOf J) args) (gcR J h) fun v h1 => v = r0 ∧ h1 = upd ++ new) : SoundF P f C := by
  intro args h r h' he own ρ w vs H ha
  obtain ⟨T, J, LA, r0, upd, new, hT, hn, hJ, rfl, rfl, hnew, hk, hw⟩ := hC args h r h' he
  have hfj : ∀ id k l, posOf J id = some k → ρ[id]? = some l → (pickR ρ J)[k]? = some l := fun id k l h1 h2 => pick_get h1 h2
  refine (wpFn_calls hT hΓ hm hf hw (H.pickW hn hJ) (ha.reAs hfj)).mono fun e w' hp => ?_
  obtain ⟨ρ', z, r', h1, ⟨rfl, rfl⟩, rfl, k1, k2, k3, k4⟩ := hp
  obtain ⟨σ, q1, q2, q3⟩ := upd_core H hn hJ hnew hk k1 k2 k3 k4
  exact ⟨σ, z, rfl, q1, q2, q3⟩
end
theorem set_same {h : Hp} {i : Nat} {B : Blk} (e : h[i]? = some B) : h.set i B = h := by
  apply List.ext_getElem?
  intro j
  by_cases hj : i = j
  · subst hj
    rw [List.getElem?_set_self (List.getElem?_eq_some_iff.1 e).1, e]
  · rw [List.getElem?_set_ne hj]
theorem getD_cells {h : Hp} {i : Nat} {c : List AV} {wr : Bool} (e : h.getD i .dead = .cells c wr) : h[i]? = some (.cells c wr) := by
  rw [List.getD_eq_getElem?_getD] at e
  cases k : h[i]? with
  | none => rw [k] at e; cases e
  | some B => rw [k] at e; rw [show B = .cells c wr from e]
theorem lt_of {h : Hp} {i : Nat} {B : Blk} (e : h[i]? = some B) : i < h.length := (List.getElem?_eq_some_iff.1 e).1
section
variable (G : ByteArray → Int → Int → Bool) (q : Int → Prop) (v : ByteArray → Int → Int → AV) (v0 : AV) (C : Int → Int) (A : Int → Int → Int)
/-- A reader's call. -/
inductive Sread : List AV → Hp → AV → Hp → Prop
  | good {h : Hp} {r : Nat} {s : ByteArray} {a n : Int} (e : h.getD r .dead = .cells [.s s, .i .i64 a, .pn] true) (hs : okS s a) (hq : q n) (hg : G s a n = true) :
      Sread [.p r 0, .i .i64 n] h (.tu [v s a n, .ni]) (h.set r (.cells [.s s, .i .i64 (A a n), .pn] true))
  | fail {h : Hp} {r : Nat} {s : ByteArray} {a n : Int} (e : h.getD r .dead = .cells [.s s, .i .i64 a, .pn] true) (hs : okS s a) (hq : q n) (hg : G s a n = false) :
      Sread [.p r 0, .i .i64 n] h (.tu [v0, .ic 23 (.p (h.length + 1) 0)]) (h.set r (.cells [.s s, .i .i64 a, .p h.length 0] true) ++ [.cells [.i .i64 (C n), .i .i64 a] true, .cells [.i .i64 (C n), .i .i64 a] true])
  | bad {h : Hp} {r f : Nat} {s : ByteArray} {a n c b : Int} (e : h.getD r .dead = .cells [.s s, .i .i64 a, .p f 0] true) (ef : h.getD f .dead = .cells [.i .i64 c, .i .i64 b] true) (hs : okS s a) (hq : q n) :
      Sread [.p r 0, .i .i64 n] h (.tu [v0, .ic 23 (.p h.length 0)]) (h ++ [.cells [.i .i64 c, .i .i64 b] true])
/-- The document's. -/
inductive Sref : List AV → Hp → AV → Hp → Prop
  | good {h : Hp} {r : Nat} {s : ByteArray} {a n b : Int} (e : h.getD r .dead = .cells [.s s, .i .i64 a, .i .i64 0, .i .i64 b] true) (hs : okS s a) (hq : q n) (hg : G s a n = true) :
      Sref [.p r 0, .i .i64 n] h (.tu [v s a n, .i .i64 0]) (h.set r (.cells [.s s, .i .i64 (A a n), .i .i64 0, .i .i64 b] true))
  | fail {h : Hp} {r : Nat} {s : ByteArray} {a n b : Int} (e : h.getD r .dead = .cells [.s s, .i .i64 a, .i .i64 0, .i .i64 b] true) (hs : okS s a) (hq : q n) (hg : G s a n = false) :
      Sref [.p r 0, .i .i64 n] h (.tu [v0, .i .i64 (C n)]) (h.set r (.cells [.s s, .i .i64 a, .i .i64 (C n), .i .i64 a] true))
  | bad {h : Hp} {r : Nat} {s : ByteArray} {a n c b : Int} (e : h.getD r .dead = .cells [.s s, .i .i64 a, .i .i64 c, .i .i64 b] true) (hs : okS s a) (hq : q n) (hc : c ≠ 0) :
      Sref [.p r 0, .i .i64 n] h (.tu [v0, .i .i64 c]) h
end
section
variable (Y : ByteArray → Int → ByteArray) (Z : ByteArray → Int)
inductive Srest : List AV → Hp → AV → Hp → Prop
  | good {h : Hp} {r : Nat} {s : ByteArray} {a : Int} (e : h.getD r .dead = .cells [.s s, .i .i64 a, .pn] true) (hs : okS s a) : Srest [.p r 0] h (.s (Y s a)) (h.set r (.cells [.s s, .i .i64 (Z s), .pn] true))
  | bad {h : Hp} {r f : Nat} {s : ByteArray} {a c b : Int} (e : h.getD r .dead = .cells [.s s, .i .i64 a, .p f 0] true) (ef : h.getD f .dead = .cells [.i .i64 c, .i .i64 b] true) : Srest [.p r 0] h (.s ⟨#[]⟩) h
inductive Srrest : List AV → Hp → AV → Hp → Prop
  | good {h : Hp} {r : Nat} {s : ByteArray} {a b : Int} (e : h.getD r .dead = .cells [.s s, .i .i64 a, .i .i64 0, .i .i64 b] true) (hs : okS s a) : Srrest [.p r 0] h (.s (Y s a)) (h.set r (.cells [.s s, .i .i64 (Z s), .i .i64 0, .i .i64 b] true))
  | bad {h : Hp} {r : Nat} {s : ByteArray} {a c b : Int} (e : h.getD r .dead = .cells [.s s, .i .i64 a, .i .i64 c, .i .i64 b] true) (hc : c ≠ 0) : Srrest [.p r 0] h (.s ⟨#[]⟩) h
end
section
variable {G : ByteArray → Int → Int → Bool} {q : Int → Prop} {v : ByteArray → Int → Int → AV} {v0 : AV} {C : Int → Int} {A : Int → Int → Int} {Y : ByteArray → Int → ByteArray} {Z : ByteArray → Int}
theorem Sread.det : Det (Sread G q v v0 C A) := by
  intro args h r h' r2 h2 x y
  cases x with
  | good e hs hq hg => cases y with
    | good e' hs' hq' hg' => rw [e] at e'; cases e'; exact ⟨rfl, rfl⟩
    | fail e' hs' hq' hg' => rw [e] at e'; cases e'; rw [hg] at hg'; cases hg'
    | bad e' ef' hs' hq' => rw [e] at e'; cases e'
  | fail e hs hq hg => cases y with
    | good e' hs' hq' hg' => rw [e] at e'; cases e'; rw [hg] at hg'; cases hg'
    | fail e' hs' hq' hg' => rw [e] at e'; cases e'; exact ⟨rfl, rfl⟩
    | bad e' ef' hs' hq' => rw [e] at e'; cases e'
  | bad e ef hs hq => cases y with
    | good e' hs' hq' hg' => rw [e] at e'; cases e'
    | fail e' hs' hq' hg' => rw [e] at e'; cases e'
    | bad e' ef' hs' hq' => rw [e] at e'; cases e'; rw [ef] at ef'; cases ef'; exact ⟨rfl, rfl⟩
theorem Sref.det : Det (Sref G q v v0 C A) := by
  intro args h r h' r2 h2 x y
  cases x with
  | good e hs hq hg => cases y with
    | good e' hs' hq' hg' => rw [e] at e'; cases e'; exact ⟨rfl, rfl⟩
    | fail e' hs' hq' hg' => rw [e] at e'; cases e'; rw [hg] at hg'; cases hg'
    | bad e' hs' hq' hc' => rw [e] at e'; cases e'; exact absurd rfl hc'
  | fail e hs hq hg => cases y with
    | good e' hs' hq' hg' => rw [e] at e'; cases e'; rw [hg] at hg'; cases hg'
    | fail e' hs' hq' hg' => rw [e] at e'; cases e'; exact ⟨rfl, rfl⟩
    | bad e' hs' hq' hc' => rw [e] at e'; cases e'; exact absurd rfl hc'
  | bad e hs hq hc => cases y with
    | good e' hs' hq' hg' => rw [e] at e'; cases e'; exact absurd rfl hc
    | fail e' hs' hq' hg' => rw [e] at e'; cases e'; exact absurd rfl hc
    | bad e' hs' hq' hc' => rw [e] at e'; cases e'; exact ⟨rfl, rfl⟩
theorem Srest.det : Det (Srest Y Z) := by
  intro args h r h' r2 h2 x y
  cases x with
  | good e hs => cases y with
    | good e' hs' => rw [e] at e'; cases e'; exact ⟨rfl, rfl⟩
    | bad e' ef' => rw [e] at e'; cases e'
  | bad e ef => cases y with
    | good e' hs' => rw [e] at e'; cases e'
    | bad e' ef' => exact ⟨rfl, rfl⟩
theorem Srrest.det : Det (Srrest Y Z) := by
  intro args h r h' r2 h2 x y
  cases x with
  | good e hs => cases y with
    | good e' hs' => rw [e] at e'; cases e'; exact ⟨rfl, rfl⟩
    | bad e' hc' => rw [e] at e'; cases e'; exact absurd rfl hc'
  | bad e hc => cases y with
    | good e' hs' => rw [e] at e'; cases e'; exact absurd rfl hc
    | bad e' hc' => exact ⟨rfl, rfl⟩
theorem tread_f : FollowsF (tread G q v v0 C A) (Cof (Sread G q v v0 C A)) := by
  refine follows_of Sread.det fun args h K hk => ?_
  unfold tread at hk
  split at hk
  · split at hk
    · rename_i r n _ s a e
      obtain ⟨h1, h2⟩ := hk
      rcases br_elim h2 with ⟨g, h3⟩ | ⟨g, h3⟩
      · exact ⟨_, _, .good e h1.out.1 h1.out.2 g, h3⟩
      · rw [lenK_eq] at h3
        exact ⟨_, _, .fail e h1.out.1 h1.out.2 g, h3⟩
    · rename_i r n _ s a f e
      split at hk
      · rename_i c b ef
        obtain ⟨h1, h2⟩ := hk
        rw [lenK_eq] at h2
        exact ⟨_, _, .bad e ef h1.out.1 h1.out.2, h2⟩
      · exact hk.elim
    · exact hk.elim
  · exact hk.elim
theorem treadG_f : FollowsF (treadG G q v A) (Cof (Sread G q v v0 C A)) := by
  refine follows_of Sread.det fun args h K hk => ?_
  unfold treadG at hk
  split at hk
  · split at hk
    · rename_i r n _ s a e
      obtain ⟨h1, h2, h3⟩ := hk
      exact ⟨_, _, .good e h1.out.1 h1.out.2 h2.out, h3⟩
    · exact hk.elim
  · exact hk.elim
theorem treadF_f : FollowsF (treadF G q v0 C) (Cof (Sread G q v v0 C A)) := by
  refine follows_of Sread.det fun args h K hk => ?_
  unfold treadF at hk
  split at hk
  · split at hk
    · rename_i r n _ s a e
      obtain ⟨h1, h2, h3⟩ := hk
      rw [lenK_eq] at h3
      exact ⟨_, _, .fail e h1.out.1 h1.out.2 h2.out, h3⟩
    · rename_i r n _ s a f e
      split at hk
      · rename_i c b ef
        obtain ⟨h1, h2⟩ := hk
        rw [lenK_eq] at h2
        exact ⟨_, _, .bad e ef h1.out.1 h1.out.2, h2⟩
      · exact hk.elim
    · exact hk.elim
  · exact hk.elim
theorem tref_f : FollowsF (tref G q v v0 C A) (Cof (Sref G q v v0 C A)) := by
  refine follows_of Sref.det fun args h K hk => ?_
  unfold tref at hk
  split at hk
  · split at hk
    · rename_i r n _ s a c b e
      obtain ⟨h1, h2⟩ := hk
      rcases br_elim h2 with ⟨g, h3⟩ | ⟨g, h3⟩
      · obtain rfl : c = 0 := by simpa using g
        rcases br_elim h3 with ⟨g, h3⟩ | ⟨g, h3⟩
        · exact ⟨_, _, .good e h1.out.1 h1.out.2 g, h3⟩
        · exact ⟨_, _, .fail e h1.out.1 h1.out.2 g, h3⟩
      · exact ⟨_, _, .bad e h1.out.1 h1.out.2 (by simpa using g), h3⟩
    · exact hk.elim
  · exact hk.elim
theorem trefG_f : FollowsF (trefG G q v A) (Cof (Sref G q v v0 C A)) := by
  refine follows_of Sref.det fun args h K hk => ?_
  unfold trefG at hk
  split at hk
  · split at hk
    · rename_i r n _ s a c b e
      obtain ⟨h1, h2, h3, h4⟩ := hk
      obtain rfl := h2.out
      exact ⟨_, _, .good e h1.out.1 h1.out.2 h3.out, h4⟩
    · exact hk.elim
  · exact hk.elim
theorem trefF_f : FollowsF (trefF G q v0 C) (Cof (Sref G q v v0 C A)) := by
  refine follows_of Sref.det fun args h K hk => ?_
  unfold trefF at hk
  split at hk
  · split at hk
    · rename_i r n _ s a c b e
      obtain ⟨h1, h2, h3⟩ := hk
      rcases br_elim h3 with ⟨g, h3⟩ | ⟨g, h3⟩
      · obtain rfl : c = 0 := by simpa using g
        exact ⟨_, _, .fail e h1.out.1 h1.out.2 (h2.out rfl), h3⟩
      · exact ⟨_, _, .bad e h1.out.1 h1.out.2 (by simpa using g), h3⟩
    · exact hk.elim
  · exact hk.elim
theorem trest_f : FollowsF (trest Y Z) (Cof (Srest Y Z)) := by
  refine follows_of Srest.det fun args h K hk => ?_
  unfold trest at hk
  split at hk
  · split at hk
    · rename_i r _ s a e
      exact ⟨_, _, .good e hk.1.out, hk.2⟩
    · rename_i r _ s a f e
      split at hk
      · rename_i c b ef
        exact ⟨_, _, .bad e ef, hk⟩
      · exact hk.elim
    · exact hk.elim
  · exact hk.elim
theorem trrest_f : FollowsF (trrest Y Z) (Cof (Srrest Y Z)) := by
  refine follows_of Srrest.det fun args h K hk => ?_
  unfold trrest at hk
  split at hk
  · split at hk
    · rename_i r _ s a c b e
      obtain ⟨h1, h2⟩ := hk
      rcases br_elim h2 with ⟨g, h3⟩ | ⟨g, h3⟩
      · obtain rfl : c = 0 := by simpa using g
        exact ⟨_, _, .good e h1.out, h3⟩
      · exact ⟨_, _, .bad e (by simpa using g), h3⟩
    · exact hk.elim
  · exact hk.elim
end
section
variable {P : Program} {W : Nat → Option Eng.Road} {Γ : Env} {G : ByteArray → Int → Int → Bool} {q : Int → Prop} {v : ByteArray → Int → Int → AV} {v0 : AV} {C : Int → Int} {A : Int → Int → Int} {Y : ByteArray → Int → ByteArray} {Z : ByteArray → Int}
theorem ne_of_rows {h : Hp} {r f : Nat} {s : ByteArray} {a c b : Int} {x : AV} (e : h[r]? = some (.cells [.s s, .i .i64 a, x] true)) (ef : h[f]? = some (.cells [.i .i64 c, .i .i64 b] true)) : r ≠ f := by
  rintro rfl; rw [e] at ef; cases ef
theorem read_s (hΓ : Sound P Γ) (hm : P.follows .mixedOrders = true) {f : FuncId} {fn : Func} (hf : fnOk1 P W f fn) (hv : ∀ s a n, (v s a n).under 0 = true) (h0 : v0.under 0 = true)
    (rG : ∀ s a n, okS s a → q n → G s a n = true → ∃ T LA, Follows T Γ ∧ wpFn P T W LA 1 fn [.p 0 0, .i .i64 n] [.cells [.s s, .i .i64 a, .pn] true] fun x h1 => x = .tu [v s a n, .ni] ∧ h1 = [.cells [.s s, .i .i64 (A a n), .pn] true])
    (rF : ∀ s a n, okS s a → q n → G s a n = false → ∃ T LA, Follows T Γ ∧ wpFn P T W LA 1 fn [.p 0 0, .i .i64 n] [.cells [.s s, .i .i64 a, .pn] true] fun x h1 => x = .tu [v0, .ic 23 (.p 2 0)] ∧ h1 = [.cells [.s s, .i .i64 a, .p 1 0] true, .cells [.i .i64 (C n), .i .i64 a] true, .cells [.i .i64 (C n), .i .i64 a] true])
    (rB : ∀ s a n c b, okS s a → q n → ∃ T LA, Follows T Γ ∧ wpFn P T W LA 2 fn [.p 0 0, .i .i64 n] [.cells [.s s, .i .i64 a, .p 1 0] true, .cells [.i .i64 c, .i .i64 b] true] fun x h1 => x = .tu [v0, .ic 23 (.p 2 0)] ∧ h1 = [.cells [.s s, .i .i64 a, .p 1 0] true, .cells [.i .i64 c, .i .i64 b] true, .cells [.i .i64 c, .i .i64 b] true]) :
    SoundF P f (Cof (Sread G q v v0 C A)) := by
  refine SoundF.updT hΓ hm hf fun args h r h' he => ?_
  have hx := Cof_spec he
  cases hx with
  | @good _ id s a n e hs hq hg =>
    have e := getD_cells e
    obtain ⟨T, LA, k1, k2⟩ := rG s a n hs hq hg
    have g1 : gcR [id] h = [.cells [.s s, .i .i64 a, .pn] true] := gcR_one e rfl
    refine ⟨T, [id], LA, .tu [v s a n, .ni], [.cells [.s s, .i .i64 (A a n), .pn] true], [], k1, by simp, by simpa using lt_of e, ?_, ?_, rfl, by rw [g1]; rfl, ?_⟩
    · rw [reA, reAs, reA_flat _ (hv s a n)]; rfl
    · rw [List.map_nil, List.append_nil]; rfl
    · rw [g1, show reAs (posOf [id]) [.p id 0, .i .i64 n] = [.p 0 0, .i .i64 n] from by simp [reAs, reA, posOf]]
      exact k2
  | @fail _ id s a n e hs hq hg =>
    have e := getD_cells e
    obtain ⟨T, LA, k1, k2⟩ := rF s a n hs hq hg
    have g1 : gcR [id] h = [.cells [.s s, .i .i64 a, .pn] true] := gcR_one e rfl
    refine ⟨T, [id], LA, .tu [v0, .ic 23 (.p 2 0)], [.cells [.s s, .i .i64 a, .p 1 0] true], [.cells [.i .i64 (C n), .i .i64 a] true, .cells [.i .i64 (C n), .i .i64 a] true], k1, by simp, by simpa using lt_of e, ?_, ?_, rfl, by rw [g1]; rfl, ?_⟩
    · rw [reA, reAs, reA_flat _ h0]; simp [reAs, reA, backN]
    · simp [reB, reAs, reA, backN, putRows]
    · rw [g1, show reAs (posOf [id]) [.p id 0, .i .i64 n] = [.p 0 0, .i .i64 n] from by simp [reAs, reA, posOf]]
      exact k2
  | @bad _ id fd s a n c b e ef hs hq =>
    have e := getD_cells e
    have ef := getD_cells ef
    have hne := ne_of_rows e ef
    obtain ⟨T, LA, k1, k2⟩ := rB s a n c b hs hq
    have g1 : gcR [id, fd] h = [.cells [.s s, .i .i64 a, .p 1 0] true, .cells [.i .i64 c, .i .i64 b] true] := by
      simp [gcR, reB, reAs, reA, posOf, List.getD_eq_getElem?_getD, e, ef, hne]
    refine ⟨T, [id, fd], LA, .tu [v0, .ic 23 (.p 2 0)], [.cells [.s s, .i .i64 a, .p 1 0] true, .cells [.i .i64 c, .i .i64 b] true], [.cells [.i .i64 c, .i .i64 b] true], k1, by simp [hne], by simpa using ⟨lt_of e, lt_of ef⟩, ?_, ?_, rfl, by rw [g1]; rfl, ?_⟩
    · rw [reA, reAs, reA_flat _ h0]; simp [reAs, reA, backN]
    · simp only [List.map_cons, List.map_nil, reB, reAs, reA, backN, putRows]
      simp [set_same e, set_same ef]
    · rw [g1, show reAs (posOf [id, fd]) [.p id 0, .i .i64 n] = [.p 0 0, .i .i64 n] from by simp [reAs, reA, posOf]]
      exact k2
theorem ref_s (hΓ : Sound P Γ) (hm : P.follows .mixedOrders = true) {f : FuncId} {fn : Func} (hf : fnOk1 P W f fn) (hv : ∀ s a n, (v s a n).under 0 = true) (h0 : v0.under 0 = true)
    (rG : ∀ s a n b, okS s a → q n → G s a n = true → ∃ T LA, Follows T Γ ∧ wpFn P T W LA 1 fn [.p 0 0, .i .i64 n] [.cells [.s s, .i .i64 a, .i .i64 0, .i .i64 b] true] fun x h1 => x = .tu [v s a n, .i .i64 0] ∧ h1 = [.cells [.s s, .i .i64 (A a n), .i .i64 0, .i .i64 b] true])
    (rF : ∀ s a n b, okS s a → q n → G s a n = false → ∃ T LA, Follows T Γ ∧ wpFn P T W LA 1 fn [.p 0 0, .i .i64 n] [.cells [.s s, .i .i64 a, .i .i64 0, .i .i64 b] true] fun x h1 => x = .tu [v0, .i .i64 (C n)] ∧ h1 = [.cells [.s s, .i .i64 a, .i .i64 (C n), .i .i64 a] true])
    (rB : ∀ s a n c b, okS s a → q n → c ≠ 0 → ∃ T LA, Follows T Γ ∧ wpFn P T W LA 1 fn [.p 0 0, .i .i64 n] [.cells [.s s, .i .i64 a, .i .i64 c, .i .i64 b] true] fun x h1 => x = .tu [v0, .i .i64 c] ∧ h1 = [.cells [.s s, .i .i64 a, .i .i64 c, .i .i64 b] true]) :
    SoundF P f (Cof (Sref G q v v0 C A)) := by
  refine SoundF.updT hΓ hm hf fun args h r h' he => ?_
  have hx := Cof_spec he
  cases hx with
  | @good _ id s a n b e hs hq hg =>
    have e := getD_cells e
    obtain ⟨T, LA, k1, k2⟩ := rG s a n b hs hq hg
    have g1 : gcR [id] h = [.cells [.s s, .i .i64 a, .i .i64 0, .i .i64 b] true] := gcR_one e rfl
    refine ⟨T, [id], LA, .tu [v s a n, .i .i64 0], [.cells [.s s, .i .i64 (A a n), .i .i64 0, .i .i64 b] true], [], k1, by simp, by simpa using lt_of e, ?_, ?_, rfl, by rw [g1]; rfl, ?_⟩
    · rw [reA, reAs, reA_flat _ (hv s a n)]; rfl
    · rw [List.map_nil, List.append_nil]; rfl
    · rw [g1, show reAs (posOf [id]) [.p id 0, .i .i64 n] = [.p 0 0, .i .i64 n] from by simp [reAs, reA, posOf]]
      exact k2
  | @fail _ id s a n b e hs hq hg =>
    have e := getD_cells e
    obtain ⟨T, LA, k1, k2⟩ := rF s a n b hs hq hg
    have g1 : gcR [id] h = [.cells [.s s, .i .i64 a, .i .i64 0, .i .i64 b] true] := gcR_one e rfl
    refine ⟨T, [id], LA, .tu [v0, .i .i64 (C n)], [.cells [.s s, .i .i64 a, .i .i64 (C n), .i .i64 a] true], [], k1, by simp, by simpa using lt_of e, ?_, ?_, rfl, by rw [g1]; rfl, ?_⟩
    · rw [reA, reAs, reA_flat _ h0]; rfl
    · rw [List.map_nil, List.append_nil]; rfl
    · rw [g1, show reAs (posOf [id]) [.p id 0, .i .i64 n] = [.p 0 0, .i .i64 n] from by simp [reAs, reA, posOf]]
      exact k2
  | @bad _ id s a n c b e hs hq hc =>
    have e := getD_cells e
    obtain ⟨T, LA, k1, k2⟩ := rB s a n c b hs hq hc
    have g1 : gcR [id] h = [.cells [.s s, .i .i64 a, .i .i64 c, .i .i64 b] true] := gcR_one e rfl
    refine ⟨T, [id], LA, .tu [v0, .i .i64 c], [.cells [.s s, .i .i64 a, .i .i64 c, .i .i64 b] true], [], k1, by simp, by simpa using lt_of e, ?_, ?_, rfl, by rw [g1]; rfl, ?_⟩
    · rw [reA, reAs, reA_flat _ h0]; rfl
    · rw [List.map_nil, List.append_nil]; exact (set_same e).symm
    · rw [g1, show reAs (posOf [id]) [.p id 0, .i .i64 n] = [.p 0 0, .i .i64 n] from by simp [reAs, reA, posOf]]
      exact k2
theorem rest_s (hΓ : Sound P Γ) (hm : P.follows .mixedOrders = true) {f : FuncId} {fn : Func} (hf : fnOk1 P W f fn)
    (rG : ∀ s a, okS s a → ∃ T LA, Follows T Γ ∧ wpFn P T W LA 1 fn [.p 0 0] [.cells [.s s, .i .i64 a, .pn] true] fun x h1 => x = .s (Y s a) ∧ h1 = [.cells [.s s, .i .i64 (Z s), .pn] true])
    (rB : ∀ s a c b, ∃ T LA, Follows T Γ ∧ wpFn P T W LA 2 fn [.p 0 0] [.cells [.s s, .i .i64 a, .p 1 0] true, .cells [.i .i64 c, .i .i64 b] true] fun x h1 => x = .s ⟨#[]⟩ ∧ h1 = [.cells [.s s, .i .i64 a, .p 1 0] true, .cells [.i .i64 c, .i .i64 b] true]) :
    SoundF P f (Cof (Srest Y Z)) := by
  refine SoundF.updT hΓ hm hf fun args h r h' he => ?_
  have hx := Cof_spec he
  cases hx with
  | @good _ id s a e hs =>
    have e := getD_cells e
    obtain ⟨T, LA, k1, k2⟩ := rG s a hs
    have g1 : gcR [id] h = [.cells [.s s, .i .i64 a, .pn] true] := gcR_one e rfl
    refine ⟨T, [id], LA, .s (Y s a), [.cells [.s s, .i .i64 (Z s), .pn] true], [], k1, by simp, by simpa using lt_of e, rfl, ?_, rfl, by rw [g1]; rfl, ?_⟩
    · rw [List.map_nil, List.append_nil]; rfl
    · rw [g1, show reAs (posOf [id]) [.p id 0] = [.p 0 0] from by simp [reAs, reA, posOf]]
      exact k2
  | @bad _ id fd s a c b e ef =>
    have e := getD_cells e
    have ef := getD_cells ef
    have hne := ne_of_rows e ef
    obtain ⟨T, LA, k1, k2⟩ := rB s a c b
    have g1 : gcR [id, fd] h = [.cells [.s s, .i .i64 a, .p 1 0] true, .cells [.i .i64 c, .i .i64 b] true] := by
      simp [gcR, reB, reAs, reA, posOf, List.getD_eq_getElem?_getD, e, ef, hne]
    refine ⟨T, [id, fd], LA, .s ⟨#[]⟩, [.cells [.s s, .i .i64 a, .p 1 0] true, .cells [.i .i64 c, .i .i64 b] true], [], k1, by simp [hne], by simpa using ⟨lt_of e, lt_of ef⟩, rfl, ?_, rfl, by rw [g1]; rfl, ?_⟩
    · simp only [List.map_cons, List.map_nil, reB, reAs, reA, backN, putRows]
      simp [set_same e, set_same ef]
    · rw [g1, show reAs (posOf [id, fd]) [.p id 0] = [.p 0 0] from by simp [reAs, reA, posOf]]
      exact k2
theorem rrest_s (hΓ : Sound P Γ) (hm : P.follows .mixedOrders = true) {f : FuncId} {fn : Func} (hf : fnOk1 P W f fn)
    (rG : ∀ s a b, okS s a → ∃ T LA, Follows T Γ ∧ wpFn P T W LA 1 fn [.p 0 0] [.cells [.s s, .i .i64 a, .i .i64 0, .i .i64 b] true] fun x h1 => x = .s (Y s a) ∧ h1 = [.cells [.s s, .i .i64 (Z s), .i .i64 0, .i .i64 b] true])
    (rB : ∀ s a c b, c ≠ 0 → ∃ T LA, Follows T Γ ∧ wpFn P T W LA 1 fn [.p 0 0] [.cells [.s s, .i .i64 a, .i .i64 c, .i .i64 b] true] fun x h1 => x = .s ⟨#[]⟩ ∧ h1 = [.cells [.s s, .i .i64 a, .i .i64 c, .i .i64 b] true]) :
    SoundF P f (Cof (Srrest Y Z)) := by
  refine SoundF.updT hΓ hm hf fun args h r h' he => ?_
  have hx := Cof_spec he
  cases hx with
  | @good _ id s a b e hs =>
    have e := getD_cells e
    obtain ⟨T, LA, k1, k2⟩ := rG s a b hs
    have g1 : gcR [id] h = [.cells [.s s, .i .i64 a, .i .i64 0, .i .i64 b] true] := gcR_one e rfl
    refine ⟨T, [id], LA, .s (Y s a), [.cells [.s s, .i .i64 (Z s), .i .i64 0, .i .i64 b] true], [], k1, by simp, by simpa using lt_of e, rfl, ?_, rfl, by rw [g1]; rfl, ?_⟩
    · rw [List.map_nil, List.append_nil]; rfl
    · rw [g1, show reAs (posOf [id]) [.p id 0] = [.p 0 0] from by simp [reAs, reA, posOf]]
      exact k2
  | @bad _ id s a c b e hc =>
    have e := getD_cells e
    obtain ⟨T, LA, k1, k2⟩ := rB s a c b hc
    have g1 : gcR [id] h = [.cells [.s s, .i .i64 a, .i .i64 c, .i .i64 b] true] := gcR_one e rfl
    refine ⟨T, [id], LA, .s ⟨#[]⟩, [.cells [.s s, .i .i64 a, .i .i64 c, .i .i64 b] true], [], k1, by simp, by simpa using lt_of e, rfl, ?_, rfl, by rw [g1]; rfl, ?_⟩
    · rw [List.map_nil, List.append_nil]; exact (set_same e).symm
    · rw [g1, show reAs (posOf [id]) [.p id 0] = [.p 0 0] from by simp [reAs, reA, posOf]]
      exact k2
end
end Go.Proofs.YtiknpjblmihmkaaDoor.NumRun
