/- What is read is the document's: the law. -/
import Derived.Test.YtiknpjblmihmkaaDoorNumReadsV
set_option linter.unusedVariables false
set_option linter.unusedSimpArgs false
open Go Go.Proofs.YtiknpjblmihmkaaDoor.Eng Go.RowKit
namespace Go.Proofs.YtiknpjblmihmkaaDoor.NumRun
theorem F0G (s : ByteArray) (a n : Int) : F0.G s a n = gG s a n := rfl
def mkA (q : Int × Int) : List AV := [.i .i64 q.1, .i .i64 q.2]
theorem C_ne (n : Int) : (F0.C n == 0) = false := by show (gC n == 0) = false; unfold gC; split <;> rfl
theorem C_ne0 (n : Int) : F0.C n ≠ 0 := by have := C_ne n; simpa using this
/-- Behind a step forward the place is a place yet. -/
theorem okS_A {s : ByteArray} {a n : Int} (h : okS s a) (g : F0.G s a n = true) : okS s (F0.A a n) := by
  have g : gG s a n = true := g
  simp only [gG, decide_eq_true_eq] at g
  exact ⟨show 0 ≤ a + n by have := h.1; omega, show a + n ≤ _ from g.2, h.2.2⟩
def Ia (s : ByteArray) (len : Nat) (m : Nat) : (Int × Int) ⊕ (Int × Int × Int) → Prop
  | .inl q => okS s q.1 ∧ ∃ k : Nat, q.2 = k ∧ k + m = len
  | .inr q => okS s q.1 ∧ q.2.1 ≠ 0 ∧ ∃ k : Nat, q.2.2 = k ∧ k + m = len
/-- Behind the switch: the same round. -/
def Ja (s : ByteArray) (i : Int) : (Int × Int) ⊕ (Int × Int × Int) → Prop
  | .inl q => okS s q.1 ∧ q.2 = i
  | .inr q => okS s q.1 ∧ q.2.1 ≠ 0 ∧ q.2.2 = i
def Ka (a i d : Int) : (Int × Int × Int × Bool) ⊕ (Int × Int × Int × Int × Bool) → Prop
  | .inl q => q.1 = a ∧ q.2.1 = i ∧ q.2.2.1 = d ∧ (q.2.2.2 = true ↔ d = 0 ∨ d = 1 ∨ d = 2)
  | .inr _ => False
def Kb (a f i d : Int) : (Int × Int × Int × Bool) ⊕ (Int × Int × Int × Int × Bool) → Prop
  | .inl _ => False
  | .inr q => q.1 = a ∧ q.2.1 = f ∧ q.2.2.1 = i ∧ q.2.2.2.1 = d ∧ (q.2.2.2.2 = true ↔ d = 0 ∨ d = 1 ∨ d = 2)
theorem sw (d : Int) : ((d == 0) = true → ((d == 0) = true ↔ d = 0 ∨ d = 1 ∨ d = 2)) ∧ ((d == 0) = false → (d == 1) = true → ((d == 1) = true ↔ d = 0 ∨ d = 1 ∨ d = 2)) ∧ ((d == 0) = false → (d == 1) = false → ((d == 2) = true ↔ d = 0 ∨ d = 1 ∨ d = 2)) := by
  simp; omega
theorem recs_flat : ∀ (l : List (Int × Int)), AV.unders 0 (recs mkA l) = true
  | [] => rfl
  | x :: l => by
    show AV.unders 0 (mkA x ++ recs mkA l) = true
    rw [unders_append, recs_flat l]; rfl
theorem recs_get : ∀ (l : List (Int × Int)) (i : Nat) (x : Int × Int), l[i]? = some x → (recs mkA l)[i * 2]? = some (.i .i64 x.1) ∧ (recs mkA l)[i * 2 + 1]? = some (.i .i64 x.2)
  | [], i, x, h => by simp at h
  | y :: l, 0, x, h => by
    simp only [List.getElem?_cons_zero, Option.some.injEq] at h
    subst h
    exact ⟨rfl, rfl⟩
  | y :: l, i + 1, x, h => by
    have k := recs_get l i x (by simpa using h)
    have e1 : (i + 1) * 2 = i * 2 + 1 + 1 := by omega
    show (mkA y ++ recs mkA l)[(i + 1) * 2]? = _ ∧ (mkA y ++ recs mkA l)[(i + 1) * 2 + 1]? = _
    rw [e1]
    simp only [mkA, List.cons_append, List.nil_append, List.getElem?_cons_succ]
    exact k
/-- The fault's copy is forgotten. -/
theorem wk4 {c : List AV} (hu : AV.unders 0 c = true) {t t' : List AV} {s : ByteArray} {a f : Int} {B : Blk} (ht : reAs (posOf [0, 1, 2, 3]) t = t') :
    Wk 1 ⟨t, [.cells c false, .cells [.s s, .i .i64 a, .p 3 0] true, .cells [.s s, .i .i64 a, .i .i64 f, .i .i64 a] true, .cells [.i .i64 f, .i .i64 a] true, B]⟩
      ⟨t', [.cells c false, .cells [.s s, .i .i64 a, .p 3 0] true, .cells [.s s, .i .i64 a, .i .i64 f, .i .i64 a] true, .cells [.i .i64 f, .i .i64 a] true]⟩ :=
  Wk.rows [0, 1, 2, 3] (by decide) rfl rfl (by simp [gcR, reB, reAs, reA, posOf, reAs_flat _ hu]) ht
theorem tl (x : ByteArray) : ¬ (!ByteArray.toList x == ByteArray.toList x) = true := by simp
theorem nn {x : Int} : ¬ (x != x) = true := by simp
theorem same_ok {n a : Int} : ¬ (!(!F0.C n == 0 && (F0.C n == F0.C n && a == a))) = true := by rw [C_ne]; simp
theorem same_ok' {f a : Int} (h : f ≠ 0) : ¬ (!(!f == 0 && (f == f && a == a))) = true := by
  have : (f == 0) = false := by simpa using h
  rw [this]; simp
theorem p1 : IntKind.wrap .i64 (1 * 2 ^ min (Int.toNat 0) (IntKind.bits .i64)) = 1 := by decide
theorem p2 : IntKind.wrap .i64 (1 * 2 ^ min (Int.toNat 1) (IntKind.bits .i64)) = 2 := by decide
theorem p4 : IntKind.wrap .i64 (1 * 2 ^ min (Int.toNat 2) (IntKind.bits .i64)) = 4 := by decide
theorem okS_Z {s : ByteArray} {a : Int} (h : okS s a) : okS s (F0.Z s) := ⟨Int.natCast_nonneg _, Int.le_refl _, h.2.2⟩
set_option maxRecDepth 100000 in
theorem law5 {s : ByteArray} {len cap : Nat} {l : List (Int × Int)} (hl : len ≤ l.length) (hok : ∀ x ∈ l, ok64 x.1 ∧ ok64 x.2) :
    wpFn P (T5 F0) W5 (head5 s 0 len (some cap) (recs mkA l)) 1 Go.Proofs.Tryd.f5 [.s s, .sl 0 0 len 2 (some cap)] [.cells (recs mkA l) false] fun v _ => v = .bo true := by
  have hu : AV.unders 0 (recs mkA l) = true := recs_flat l
  have hc : ∀ i : Int, 0 ≤ i → i < len → ∃ x : Int × Int, (recs mkA l)[0 + i.toNat * 2 + 0]? = some (.i .i64 x.1) ∧ (recs mkA l)[0 + i.toNat * 2 + 1]? = some (.i .i64 x.2) ∧ ok64 x.1 ∧ ok64 x.2 := by
    intro i h0 h1
    have hi : i.toNat < l.length := by omega
    have e := List.getElem?_eq_getElem hi
    obtain ⟨k1, k2⟩ := recs_get l i.toNat _ e
    rw [Nat.zero_add]
    exact ⟨l[i.toNat], k1, k2, hok _ (List.getElem_mem hi)⟩
  rw [vc5]
  generalize recs mkA l = c at *
  refine br_intro (fun _ => rfl) fun h1 => br_intro (fun _ => rfl) fun h2 => ?_
  have hs0 : okS s 0 := ⟨by omega, by omega, by simp at h1; omega⟩
  have h300 : len ≤ 300 := by simp at h2; omega
  refine ⟨Wk.refl _ _, Ia s len, len, ⟨hs0, 0, rfl, by omega⟩, ?_, ?_⟩
  · rintro ⟨a, i⟩ m ⟨hs, k, rfl, hk⟩
    refine br_intro (fun hi => ?_) (fun hi => rfl)
    simp only [decide_eq_true_eq] at hi
    have h0k : (0 : Int) ≤ k := Int.natCast_nonneg k
    obtain ⟨⟨d, x⟩, hd, hx, okd, okx⟩ := hc k (by omega) hi
    refine ⟨Ja s k, ⟨⟨by omega, hi⟩, d, ⟨hd⟩, Ka a k d, ?_, ?_, ?_⟩, ?_, ?_⟩
    · exact br_intro (fun e => ⟨Wk.refl _ _, rfl, rfl, rfl, (sw d).1 e⟩) fun e => br_intro (fun e2 => ⟨Wk.refl _ _, rfl, rfl, rfl, (sw d).2.1 e e2⟩) fun e2 => ⟨Wk.refl _ _, rfl, rfl, rfl, (sw d).2.2 e e2⟩
    · rintro ⟨a', i', d', b⟩ ⟨e1, e2, e3, hb⟩
      simp only at e1 e2 e3 hb hs hd hx okd okx
      subst e1 e2 e3
      refine br_intro (fun hb' => ?_) (fun hb' => br_intro (fun h3 => ?_) fun h3 => br_intro (fun h4 => ?_) fun h4 => ?_)
      · have num : ∀ p : Int, okN p → _ := fun p hp => hp
        rcases hb.1 hb' with e0 | e0 | e0
        · subst e0
          refine ⟨⟨h0k, hi⟩, _, ⟨hd⟩, ⟨by decide⟩, ?_⟩
          rw [p1]
          refine br_intro (fun _ => ?_) (fun h => absurd h (by decide))
          exact ⟨⟨hs, .inl rfl⟩, br_intro (fun g => ⟨⟨hs, .inl rfl⟩, br_intro (fun _ => br_intro (fun h => absurd h nn) (fun _ => ⟨0, ⟨rfl⟩, Wk.refl _ _, okS_A hs g, rfl⟩)) (fun g' => by rw [g] at g'; cases g')⟩)
            (fun g => ⟨⟨hs, .inl rfl⟩, br_intro (fun g' => by rw [g] at g'; cases g') (fun _ => ⟨a', ⟨rfl⟩, br_intro (fun h => absurd h same_ok) (fun _ => ⟨wk4 hu rfl, hs, C_ne0 1, rfl⟩)⟩)⟩)⟩
        · subst e0
          refine ⟨⟨h0k, hi⟩, _, ⟨hd⟩, ⟨by decide⟩, ?_⟩
          rw [p2]
          refine br_intro (fun h => absurd h (by decide)) (fun _ => br_intro (fun _ => ?_) (fun h => absurd h (by decide)))
          exact ⟨⟨hs, .inr (.inl rfl)⟩, br_intro (fun g => ⟨⟨hs, .inr (.inl rfl)⟩, br_intro (fun _ => br_intro (fun h => absurd h nn) (fun _ => ⟨0, ⟨rfl⟩, Wk.refl _ _, okS_A hs g, rfl⟩)) (fun g' => by rw [g] at g'; cases g')⟩)
            (fun g => ⟨⟨hs, .inr (.inl rfl)⟩, br_intro (fun g' => by rw [g] at g'; cases g') (fun _ => ⟨a', ⟨rfl⟩, br_intro (fun h => absurd h same_ok) (fun _ => ⟨wk4 hu rfl, hs, C_ne0 2, rfl⟩)⟩)⟩)⟩
        · subst e0
          refine ⟨⟨h0k, hi⟩, _, ⟨hd⟩, ⟨by decide⟩, ?_⟩
          rw [p4]
          refine br_intro (fun h => absurd h (by decide)) (fun _ => br_intro (fun h => absurd h (by decide)) (fun _ => ?_))
          exact ⟨⟨hs, .inr (.inr rfl)⟩, br_intro (fun g => ⟨⟨hs, .inr (.inr rfl)⟩, br_intro (fun _ => br_intro (fun h => absurd h nn) (fun _ => ⟨0, ⟨rfl⟩, Wk.refl _ _, okS_A hs g, rfl⟩)) (fun g' => by rw [g] at g'; cases g')⟩)
            (fun g => ⟨⟨hs, .inr (.inr rfl)⟩, br_intro (fun g' => by rw [g] at g'; cases g') (fun _ => ⟨a', ⟨rfl⟩, br_intro (fun h => absurd h same_ok) (fun _ => ⟨wk4 hu rfl, hs, C_ne0 4, rfl⟩)⟩)⟩)⟩
      · exact ⟨⟨h0k, hi⟩, x, ⟨hx⟩, ⟨hs, okx⟩, br_intro (fun g => ⟨⟨h0k, hi⟩, x, ⟨hx⟩, ⟨hs, okx⟩, br_intro (fun _ => br_intro (fun h => absurd h (tl _)) (fun _ => ⟨0, ⟨rfl⟩, Wk.refl _ _, okS_A hs g, rfl⟩)) (fun g' => by rw [g] at g'; cases g')⟩)
            (fun g => ⟨⟨h0k, hi⟩, x, ⟨hx⟩, ⟨hs, okx⟩, br_intro (fun g' => by rw [g] at g'; cases g') (fun _ => ⟨a', ⟨rfl⟩, br_intro (fun h => absurd h same_ok) (fun _ => ⟨wk4 hu rfl, hs, C_ne0 x, rfl⟩)⟩)⟩)⟩
      · exact ⟨⟨hs⟩, ⟨hs⟩, br_intro (fun h => absurd h (tl _)) (fun _ => ⟨Wk.refl _ _, okS_Z hs, rfl⟩)⟩
      · exact ⟨Wk.refl _ _, hs, rfl⟩
    · rintro ⟨a', f', i', d', b⟩ hf
      exact hf.elim
    · rintro ⟨a', i'⟩ ⟨hs', e⟩
      simp only at e hs'
      subst e
      exact ⟨a', ⟨rfl⟩, a', ⟨rfl⟩, br_intro (fun h => absurd h nn) (fun _ => ⟨a', ⟨rfl⟩, s, ⟨rfl⟩, a', ⟨rfl⟩, br_intro (fun h => absurd h nn) (fun _ => ⟨Wk.refl _ _, m - 1, ⟨by omega⟩, hs', k + 1, i64w (x := (k : Int) + 1) (by omega) (by omega), by omega⟩)⟩)⟩
    · rintro ⟨a', f', i'⟩ ⟨hs', hf', e⟩
      simp only at e hs' hf'
      subst e
      exact ⟨a', ⟨rfl⟩, a', ⟨rfl⟩, br_intro (fun h => absurd h nn) (fun _ => ⟨a', ⟨rfl⟩, s, ⟨rfl⟩, a', ⟨rfl⟩, br_intro (fun h => absurd h nn) (fun _ => ⟨Wk.refl _ _, m - 1, ⟨by omega⟩, hs', hf', k + 1, i64w (x := (k : Int) + 1) (by omega) (by omega), by omega⟩)⟩)⟩
  · rintro ⟨a, f, i⟩ m ⟨hs, hf, k, e0, hk⟩
    simp only at e0 hs hf
    subst e0
    refine br_intro (fun hi => ?_) (fun hi => rfl)
    simp only [decide_eq_true_eq] at hi
    have h0k : (0 : Int) ≤ k := Int.natCast_nonneg k
    obtain ⟨⟨d, x⟩, hd, hx, okd, okx⟩ := hc k (by omega) hi
    refine ⟨Ja s k, ⟨⟨h0k, hi⟩, d, ⟨hd⟩, Kb a f k d, ?_, ?_, ?_⟩, ?_, ?_⟩
    · exact br_intro (fun e => ⟨Wk.refl _ _, rfl, rfl, rfl, rfl, (sw d).1 e⟩) fun e => br_intro (fun e2 => ⟨Wk.refl _ _, rfl, rfl, rfl, rfl, (sw d).2.1 e e2⟩) fun e2 => ⟨Wk.refl _ _, rfl, rfl, rfl, rfl, (sw d).2.2 e e2⟩
    · rintro ⟨a', i', d', b⟩ hf
      exact hf.elim
    · rintro ⟨a', f', i', d', b⟩ ⟨e1, e4, e2, e3, hb⟩
      simp only at e1 e2 e3 e4 hb hs hd hx okd okx
      subst e1 e2 e3 e4
      have fne : ¬ (f' == 0) = true := by simpa using hf
      refine br_intro (fun hb' => ?_) (fun hb' => br_intro (fun h3 => ?_) fun h3 => br_intro (fun h4 => ?_) fun h4 => ?_)
      · rcases hb.1 hb' with e0 | e0 | e0
        · subst e0
          refine ⟨⟨h0k, hi⟩, _, ⟨hd⟩, ⟨by decide⟩, ?_⟩
          rw [p1]
          refine br_intro (fun _ => ?_) (fun h => absurd h (by decide))
          exact ⟨⟨hs, .inl rfl⟩, ⟨hs, .inl rfl⟩, br_intro (fun h => absurd h fne) (fun _ => ⟨a', ⟨rfl⟩, br_intro (fun h => absurd h (same_ok' hf)) (fun _ => ⟨wk4 hu rfl, hs, hf, rfl⟩)⟩)⟩
        · subst e0
          refine ⟨⟨h0k, hi⟩, _, ⟨hd⟩, ⟨by decide⟩, ?_⟩
          rw [p2]
          refine br_intro (fun h => absurd h (by decide)) (fun _ => br_intro (fun _ => ?_) (fun h => absurd h (by decide)))
          exact ⟨⟨hs, .inr (.inl rfl)⟩, ⟨hs, .inr (.inl rfl)⟩, br_intro (fun h => absurd h fne) (fun _ => ⟨a', ⟨rfl⟩, br_intro (fun h => absurd h (same_ok' hf)) (fun _ => ⟨wk4 hu rfl, hs, hf, rfl⟩)⟩)⟩
        · subst e0
          refine ⟨⟨h0k, hi⟩, _, ⟨hd⟩, ⟨by decide⟩, ?_⟩
          rw [p4]
          refine br_intro (fun h => absurd h (by decide)) (fun _ => br_intro (fun h => absurd h (by decide)) (fun _ => ?_))
          exact ⟨⟨hs, .inr (.inr rfl)⟩, ⟨hs, .inr (.inr rfl)⟩, br_intro (fun h => absurd h fne) (fun _ => ⟨a', ⟨rfl⟩, br_intro (fun h => absurd h (same_ok' hf)) (fun _ => ⟨wk4 hu rfl, hs, hf, rfl⟩)⟩)⟩
      · exact ⟨⟨h0k, hi⟩, x, ⟨hx⟩, ⟨hs, okx⟩, ⟨h0k, hi⟩, x, ⟨hx⟩, ⟨hs, okx⟩, br_intro (fun h => absurd h fne) (fun _ => ⟨a', ⟨rfl⟩, br_intro (fun h => absurd h (same_ok' hf)) (fun _ => ⟨wk4 hu rfl, hs, hf, rfl⟩)⟩)⟩
      · exact ⟨⟨hs⟩, br_intro (fun h => absurd h fne) (fun _ => ⟨Wk.refl _ _, hs, hf, rfl⟩)⟩
      · exact ⟨Wk.refl _ _, hs, hf, rfl⟩
    · rintro ⟨a', i'⟩ ⟨hs', e⟩
      simp only at e hs'
      subst e
      exact ⟨a', ⟨rfl⟩, a', ⟨rfl⟩, br_intro (fun h => absurd h nn) (fun _ => ⟨a', ⟨rfl⟩, s, ⟨rfl⟩, a', ⟨rfl⟩, br_intro (fun h => absurd h nn) (fun _ => ⟨Wk.refl _ _, m - 1, ⟨by omega⟩, hs', k + 1, i64w (x := (k : Int) + 1) (by omega) (by omega), by omega⟩)⟩)⟩
    · rintro ⟨a', f', i'⟩ ⟨hs', hf', e⟩
      simp only at e hs' hf'
      subst e
      exact ⟨a', ⟨rfl⟩, a', ⟨rfl⟩, br_intro (fun h => absurd h nn) (fun _ => ⟨a', ⟨rfl⟩, s, ⟨rfl⟩, a', ⟨rfl⟩, br_intro (fun h => absurd h nn) (fun _ => ⟨Wk.refl _ _, m - 1, ⟨by omega⟩, hs', hf', k + 1, i64w (x := (k : Int) + 1) (by omega) (by omega), by omega⟩)⟩)⟩
theorem law5n (s : ByteArray) : wpFn P (T5 F0) W5 noL 0 Go.Proofs.Tryd.f5 [.s s, .sn] [] fun v _ => v = .bo true := by
  rw [vc5n]
  exact br_intro (fun _ => rfl) (fun _ => rfl)
theorem fn5 : fnOk1 P W5 5 Go.Proofs.Tryd.f5 := ⟨Go.Proofs.Tryd.func5, by kernel_rfl, by kernel_rfl, by kernel_rfl⟩
theorem fn18 : fnOk1 P noW 18 Go.Proofs.Tryd.f18 := ⟨Go.Proofs.Tryd.func18, by kernel_rfl, by kernel_rfl, by kernel_rfl⟩
theorem fn19 : fnOk1 P noW 19 Go.Proofs.Tryd.f19 := ⟨Go.Proofs.Tryd.func19, by kernel_rfl, by kernel_rfl, by kernel_rfl⟩
theorem fn20 : fnOk1 P noW 20 Go.Proofs.Tryd.f20 := ⟨Go.Proofs.Tryd.func20, by kernel_rfl, by kernel_rfl, by kernel_rfl⟩
theorem fn21 : fnOk1 P noW 21 Go.Proofs.Tryd.f21 := ⟨Go.Proofs.Tryd.func21, by kernel_rfl, by kernel_rfl, by kernel_rfl⟩
theorem fn27 : fnOk1 P noW 27 Go.Proofs.Tryd.f27 := ⟨Go.Proofs.Tryd.func27, by kernel_rfl, by kernel_rfl, by kernel_rfl⟩
theorem fn28 : fnOk1 P noW 28 Go.Proofs.Tryd.f28 := ⟨Go.Proofs.Tryd.func28, by kernel_rfl, by kernel_rfl, by kernel_rfl⟩
noncomputable abbrev ΓN : Env := with1 32 (Cof (Sread gG okN (vN F0) (.i .i64 0) gC gA)) noEnv
theorem ΓN_s : Sound P ΓN := with1_sound fn32.ok number_s (noEnv_sound _)
theorem ΓN_f : Follows (tcons 32 (tNum F0) tnil) ΓN := follows_cons tread_f (follows_nil _)
noncomputable abbrev Γ5 : Env :=
  with1 10 (Cconst (.bo true)) (with1 17 Csame (with1 18 (Cinl P noEnv noW Go.Proofs.Tryd.f18) (with1 27 (Cinl P noEnv noW Go.Proofs.Tryd.f27) (with1 28 (Cinl P noEnv noW Go.Proofs.Tryd.f28)
  (with1 19 (Cinl P ΓN noW Go.Proofs.Tryd.f19) (with1 20 (Cinl P ΓN noW Go.Proofs.Tryd.f20) (with1 21 (Cinl P ΓN noW Go.Proofs.Tryd.f21)
  (with1 22 (Cof (Sref gG okN (vN F0) (.i .i64 0) gC gA)) (with1 23 (Cof (Sread gG ok64 (vT F0) (.s ⟨#[]⟩) gC gA)) (with1 24 (Cof (Sref gG ok64 (vT F0) (.s ⟨#[]⟩) gC gA)) (with1 25 (Cof (Srest gY gZ)) (with1 26 (Cof (Srrest gY gZ)) noEnv))))))))))))
theorem Γ5_s : Sound P Γ5 := with1_sound (fnOkB_ok (by kernel_rfl)) awake_s (with1_sound fn17.ok same_s (with1_sound fn18.ok (inl_s (noEnv_sound _) mo fn18) (with1_sound fn27.ok (inl_s (noEnv_sound _) mo fn27) (with1_sound fn28.ok (inl_s (noEnv_sound _) mo fn28)
  (with1_sound fn19.ok (inl_s ΓN_s mo fn19) (with1_sound fn20.ok (inl_s ΓN_s mo fn20) (with1_sound fn21.ok (inl_s ΓN_s mo fn21)
  (with1_sound fn22.ok rnumber_s (with1_sound fn23.ok text_s (with1_sound fn24.ok rtext_s (with1_sound fn25.ok rest1_s (with1_sound fn26.ok rrest1_s (noEnv_sound _)))))))))))))
theorem Γ5_f : Follows (T5 F0) Γ5 := follows_cons (follows_const _) (follows_cons (tof_f _) (follows_cons (tinl_f (follows_nil _) fn18) (follows_cons (tinl_f (follows_nil _) fn27) (follows_cons (tinl_f (follows_nil _) fn28)
  (follows_cons (tinl_f ΓN_f fn19) (follows_cons (tinl_f ΓN_f fn20) (follows_cons (tinl_f ΓN_f fn21)
  (follows_cons tref_f (follows_cons tread_f (follows_cons tref_f (follows_cons trest_f (follows_cons trrest_f (follows_nil _)))))))))))))
end Go.Proofs.YtiknpjblmihmkaaDoor.NumRun
