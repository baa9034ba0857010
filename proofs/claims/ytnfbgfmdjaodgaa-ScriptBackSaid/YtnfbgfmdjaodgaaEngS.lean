/- What is to be shown of a run with variables, computed from its code: conditions, cases, and what holds behind it. -/
import Derived.Test.YtnfbgfmdjaodgaaEngR
set_option linter.unusedVariables false
set_option linter.unusedSimpArgs false
namespace Go.Proofs.Ytnfbgfmdjaodgaa.Eng
open Go.RowKit

inductive Holds (p : Prop) : Prop
  | mk : p → Holds p
theorem Holds.out {p : Prop} : Holds p → p
  | .mk h => h
noncomputable def br (t : Bool) (A B : Prop) : Prop := Bool.rec B A t
theorem br_intro {t : Bool} {A B : Prop} (h1 : t = true → A) (h2 : t = false → B) : br t A B := by
  cases t
  · exact h2 rfl
  · exact h1 rfl
theorem br_elim {t : Bool} {A B : Prop} (h : br t A B) : (t = true ∧ A) ∨ (t = false ∧ B) := by
  cases t
  · exact .inr ⟨rfl, h⟩
  · exact .inl ⟨rfl, h⟩
theorem br_true {A B : Prop} : br true A B = A := rfl
theorem br_false {A B : Prop} : br false A B = B := rfl
theorem br_false_right {t : Bool} {A : Prop} (h : br t A False) : t = true ∧ A := by
  rcases br_elim h with h | ⟨_, h⟩
  · exact h
  · exact h.elim
theorem br_false_left {t : Bool} {A : Prop} (h : br t False A) : t = false ∧ A := by
  rcases br_elim h with ⟨_, h⟩ | h
  · exact h.elim
  · exact h
def optQ {α : Type} (r : Option α) (Q : α → Prop) : Prop := match r with
  | some v => Q v
  | none => False
theorem optQ_spec {α : Type} {r : Option α} {Q : α → Prop} (h : optQ r Q) : ∃ v, r = some v ∧ Q v := by
  cases r with
  | none => exact h.elim
  | some v => exact ⟨v, rfl, h⟩
def forceL : List AV → (List AV → Prop) → Prop
  | [], K => K []
  | x :: r, K => forceL r fun r' => K (x :: r')
theorem forceL_eq : ∀ (l : List AV) (K : List AV → Prop), forceL l K = K l
  | [], K => rfl
  | x :: r, K => by rw [forceL, forceL_eq r]
def forceA (v : AV) (K : AV → Prop) : Prop := match v with
  | .ag xs => forceL xs fun xs => K (.ag xs)
  | v => K v
theorem forceA_eq (v : AV) (K : AV → Prop) : forceA v K = K v := by
  unfold forceA
  split
  · rw [forceL_eq]
  · rfl
abbrev TEnv := FuncId → List AV → Hp → (AV → Hp → Prop) → Prop
def Follows (T : TEnv) (Γ : Env) : Prop := ∀ f args h K, T f args h K → ∃ r h', Γ f args h = some (r, h') ∧ K r h'

section
variable (P : Program)
def isSc (t : TypeId) : Bool := match P.underlying t with
  | some (.int _) | some .string | some .bool => true
  | _ => false
def sc (t : TypeId) (p : AV → Prop) : Prop := match P.underlying t with
  | some (.int k) => ∃ n : Int, p (.i k n)
  | some .string => ∃ s : ByteArray, p (.s s)
  | some .bool => ∃ b : Bool, p (.bo b)
  | _ => False
theorem sc_spec {t : TypeId} {p : AV → Prop} (h : sc P t p) : ∃ v, p v := by
  unfold sc at h
  split at h
  · obtain ⟨n, h⟩ := h; exact ⟨_, h⟩
  · obtain ⟨n, h⟩ := h; exact ⟨_, h⟩
  · obtain ⟨n, h⟩ := h; exact ⟨_, h⟩
  · exact h.elim
def wpBnd (v : Option AV) (top dflt : Nat) (K : Nat → Prop) : Prop := match v with
  | none => K dflt
  | some (.i _ i) => Holds (0 ≤ i ∧ i ≤ top) ∧ K i.toNat
  | some _ => False
theorem wpBnd_spec {v : Option AV} {top dflt : Nat} {K : Nat → Prop} (h : wpBnd v top dflt K) : ∃ n, abnd v top dflt = some n ∧ K n := by
  unfold wpBnd at h
  unfold abnd
  split at h
  · exact ⟨_, rfl, h⟩
  · rename_i k i; exact ⟨i.toNat, if_pos h.1.out, h.2⟩
  · exact h.elim
def isC : Operand → Bool
  | .const _ => true
  | _ => false
def eqBA : Nat → List AV → List AV → TypeId → Nat → Nat → Nat → (Bool → Prop) → Prop
  | 0, _, _, _, _, _, _, _ => False
  | _ + 1, _, _, _, _, 0, _, K => K true
  | d + 1, xs, ys, e, sz, n + 1, i, K => optQ (partOf P xs e (i * sz)) fun x => optQ (partOf P ys e (i * sz)) fun y => optQ (aeq P d e x y) fun b => eqBA d xs ys e sz n (i + 1) fun b' => K (b && b')
theorem eqBA_spec : ∀ {d : Nat} {xs ys : List AV} {e : TypeId} {sz n i : Nat} {K : Bool → Prop}, eqBA P d xs ys e sz n i K → ∃ b, aeqA P d xs ys e sz n i = some b ∧ K b
  | 0, _, _, _, _, _, _, _, h => h.elim
  | _ + 1, _, _, _, _, 0, _, K, h => ⟨true, by simp only [aeqA], h⟩
  | d + 1, xs, ys, e, sz, n + 1, i, K, h => by
    simp only [eqBA] at h
    obtain ⟨x, hx, h⟩ := optQ_spec h
    obtain ⟨y, hy, h⟩ := optQ_spec h
    obtain ⟨b, hb, h⟩ := optQ_spec h
    obtain ⟨b', h2, h3⟩ := eqBA_spec h
    refine ⟨b && b', ?_, h3⟩
    simp only [aeqA, hx, hy, hb, Option.bind_some]
    cases b
    · rfl
    · rw [if_pos rfl, h2]; rfl
def eqL (d : Nat) (t : TypeId) (x y : AV) (K : Bool → Prop) : Prop :=
  match P.underlying t, x, y, d with
  | some (.array n e), .ag xs, .ag ys, d + 1 => optQ (asz P e) fun sz => eqBA P d xs ys e sz n 0 K
  | _, _, _, _ => optQ (aeq P d t x y) K
theorem eqL_spec {d : Nat} {t : TypeId} {x y : AV} {K : Bool → Prop} (h : eqL P d t x y K) : ∃ b, aeq P d t x y = some b ∧ K b := by
  unfold eqL at h
  split at h
  · rename_i n e xs ys d hu
    obtain ⟨sz, hsz, h⟩ := optQ_spec h
    obtain ⟨b, h1, h2⟩ := eqBA_spec P h
    refine ⟨b, ?_, h2⟩
    rw [← h1]
    simp only [aeq, hu, hsz, Option.bind_some]
  · exact optQ_spec h
def eqQF : Nat → List AV → List AV → List Field → (Bool → Prop) → Prop
  | 0, _, _, _, _ => False
  | _ + 1, _, _, [], K => K true
  | d + 1, xs, ys, f :: fs, K => br (decide (f.name = "_")) (eqQF d xs ys fs K)
      (optQ (partOf P xs f.type f.offset) fun x => optQ (partOf P ys f.type f.offset) fun y => eqL P d f.type x y fun b => br b (eqQF d xs ys fs K) (K false))
theorem eqQF_spec : ∀ {d : Nat} {xs ys : List AV} {fs : List Field} {K : Bool → Prop}, eqQF P d xs ys fs K → ∃ b, aeqF P d xs ys fs = some b ∧ K b
  | 0, _, _, _, _, h => h.elim
  | _ + 1, _, _, [], K, h => ⟨true, by simp only [aeqF], h⟩
  | d + 1, xs, ys, f :: fs, K, h => by
    simp only [eqQF] at h
    rcases br_elim h with ⟨h1, h⟩ | ⟨h1, h⟩
    · obtain ⟨b, h2, h3⟩ := eqQF_spec h
      exact ⟨b, by simp only [aeqF, if_pos (of_decide_eq_true h1), h2], h3⟩
    · obtain ⟨x, hx, h⟩ := optQ_spec h
      obtain ⟨y, hy, h⟩ := optQ_spec h
      obtain ⟨b, hb, h⟩ := eqL_spec P h
      have hn : ¬ f.name = "_" := of_decide_eq_false h1
      rcases br_elim h with ⟨rfl, h⟩ | ⟨rfl, h⟩
      · obtain ⟨b', h2, h3⟩ := eqQF_spec h
        exact ⟨b', by simp only [aeqF, if_neg hn, hx, hy, hb, Option.bind_some, if_true, h2], h3⟩
      · exact ⟨false, by simp only [aeqF, if_neg hn, hx, hy, hb, Option.bind_some, Bool.false_eq_true, if_false], h⟩
def eqQA : Nat → List AV → List AV → TypeId → Nat → Nat → Nat → (Bool → Prop) → Prop
  | 0, _, _, _, _, _, _, _ => False
  | _ + 1, _, _, _, _, 0, _, K => K true
  | d + 1, xs, ys, e, sz, n + 1, i, K => optQ (partOf P xs e (i * sz)) fun x => optQ (partOf P ys e (i * sz)) fun y => optQ (aeq P d e x y) fun b => br b (eqQA d xs ys e sz n (i + 1) K) (K false)
theorem eqQA_spec : ∀ {d : Nat} {xs ys : List AV} {e : TypeId} {sz n i : Nat} {K : Bool → Prop}, eqQA P d xs ys e sz n i K → ∃ b, aeqA P d xs ys e sz n i = some b ∧ K b
  | 0, _, _, _, _, _, _, _, h => h.elim
  | _ + 1, _, _, _, _, 0, _, K, h => ⟨true, by simp only [aeqA], h⟩
  | d + 1, xs, ys, e, sz, n + 1, i, K, h => by
    simp only [eqQA] at h
    obtain ⟨x, hx, h⟩ := optQ_spec h
    obtain ⟨y, hy, h⟩ := optQ_spec h
    obtain ⟨b, hb, h⟩ := optQ_spec h
    rcases br_elim h with ⟨rfl, h⟩ | ⟨rfl, h⟩
    · obtain ⟨b', h2, h3⟩ := eqQA_spec h
      exact ⟨b', by simp only [aeqA, hx, hy, hb, Option.bind_some, if_true, h2], h3⟩
    · exact ⟨false, by simp only [aeqA, hx, hy, hb, Option.bind_some, Bool.false_eq_true, if_false], h⟩
def eqQ (t : TypeId) (xs ys : List AV) (K : Bool → Prop) : Prop :=
  match P.underlying t with
  | some (.struct fs) => br (P.stoodInHeld t) False (eqQF P 199 xs ys fs.toList K)
  | some (.array n e) => optQ (asz P e) fun sz => eqBA P 199 xs ys e sz n 0 K
  | _ => False
theorem eqQ_spec {t : TypeId} {xs ys : List AV} {K : Bool → Prop} (h : eqQ P t xs ys K) : ∃ b, aeq P 200 t (.ag xs) (.ag ys) = some b ∧ K b := by
  unfold eqQ at h
  split at h
  · rename_i fs hu
    obtain ⟨hs, h⟩ := br_false_left h
    obtain ⟨b, h1, h2⟩ := eqQF_spec P h
    refine ⟨b, ?_, h2⟩
    rw [← h1]
    simp only [aeq, hu, hs, Bool.false_eq_true, if_false]
  · rename_i n e hu
    obtain ⟨sz, hsz, h⟩ := optQ_spec h
    obtain ⟨b, h1, h2⟩ := eqBA_spec P h
    refine ⟨b, ?_, h2⟩
    rw [← h1]
    simp only [aeq, hu, hsz, Option.bind_some]
  · exact h.elim
def wpBin (E : Operand → AV) (o : Op) (op : BinOp) (y : Operand) (vx vy : AV) (Q : AV → Prop) : Prop :=
  match vx, vy with
  | .i k a, .i k' b => match op with
    | .quo => br (decide (k = k')) (br (isC y) (br (decide (b ≠ 0)) (Q (.i k (k.wrap (a.tdiv b)))) False) (Holds (b ≠ 0) ∧ Q (.i k (k.wrap (a.tdiv b))))) False
    | .rem => br (decide (k = k')) (br (isC y) (br (decide (b ≠ 0)) (Q (.i k (a.tmod b))) False) (Holds (b ≠ 0) ∧ Q (.i k (a.tmod b)))) False
    | .shl => br (isC y) (br (decide (0 ≤ b)) (Q (.i k (k.wrap (a * 2 ^ (min b.toNat k.bits))))) False) (Holds (0 ≤ b) ∧ Q (.i k (k.wrap (a * 2 ^ (min b.toNat k.bits)))))
    | .shr => br (isC y) (br (decide (0 ≤ b)) (Q (.i k (a.fdiv (2 ^ (min b.toNat k.bits))))) False) (Holds (0 ≤ b) ∧ Q (.i k (a.fdiv (2 ^ (min b.toNat k.bits)))))
    | _ => optQ (apure P E o) Q
  | .s a, .s b => match op with
    | .add => Holds (a.size + b.size ≤ 9223372036854775807) ∧ Q (.s (a ++ b))
    | _ => optQ (apure P E o) Q
  | .ag xs, .ag ys => match o with
    | .binOp .eql t x y _ => br (guardOk P .eql t x y (.ag xs) (.ag ys)) (eqQ P t xs ys fun b => Q (.bo b)) False
    | .binOp .neq t x y _ => br (guardOk P .neq t x y (.ag xs) (.ag ys)) (eqQ P t xs ys fun b => Q (.bo (!b))) False
    | _ => False
  | _, _ => optQ (apure P E o) Q
def wpIndex (E : Operand → AV) (o : Op) (t : TypeId) (ix : Operand) (vx vi : AV) (Q : AV → Prop) : Prop :=
  match P.underlying t, vx, vi with
  | some .string, .s a, .i _ i => Holds (0 ≤ i) ∧ ∃ b : UInt8, Holds (a[i.toNat]? = some b) ∧ Q (.i .u8 b.toNat)
  | some (.array n e), .ag xs, .i _ i => br (isC ix) (optQ (apure P E o) Q)
      (optQ (asz P e) fun sz => Holds (0 ≤ i ∧ i < n) ∧ br (aggB P e) (∃ v, Holds (partOf P xs e (i.toNat * sz) = some v) ∧ Q v) (sc P e fun v => Holds (xs[i.toNat * sz]? = some v) ∧ Q v))
  | _, _, _ => False
def wpIndexAddr (t : TypeId) (vx vi : AV) (Q : AV → Prop) : Prop :=
  match P.underlying t, vx, vi with
  | some (.array n e), .p id off, .i _ i => optQ (asz P e) fun sz => Holds (0 ≤ i ∧ i < n) ∧ Q (.p id (off + i.toNat * sz))
  | some (.slice e), .sl id off len esz _, .i _ i => br (decide (asz P e = some esz)) (Holds (0 ≤ i ∧ i < len) ∧ Q (.p id (off + i.toNat * esz))) False
  | _, _, _ => False
def wpSlice (E : Operand → AV) (o : Op) (t : TypeId) (vx : AV) (lo hi mx : Option AV) (Q : AV → Prop) : Prop :=
  match P.underlying t, vx, mx with
  | some .string, .s a, none => wpBnd hi a.size a.size fun h => wpBnd lo h 0 fun l => Q (.s (a.extract l h))
  | some (.slice e), .sl id off len esz cap, none => br (decide (asz P e = some esz)) (wpBnd hi (cap.getD len) len fun h => wpBnd lo h 0 fun l => Q (.sl id (off + l * esz) (h - l) esz (cap.map fun c => c - l))) False
  | some (.slice e), .sn, none => br (asz P e).isSome (wpBnd hi 0 0 fun h => wpBnd lo h 0 fun _ => Q .sn) False
  | _, _, _ => optQ (apure P E o) Q
def wpPure (E : Operand → AV) (o : Op) (Q : AV → Prop) : Prop :=
  match o with
  | .pick c a b => match E c with
    | .bo t => br t (Q (E a)) (Q (E b))
    | _ => False
  | .binOp op t x y _ => wpBin P E o op y (E x) (E y) Q
  | .index t x ix => wpIndex P E o t ix (E x) (E ix) Q
  | .indexAddr t x ix => wpIndexAddr P t (E x) (E ix) Q
  | .slice t x lo hi mx => wpSlice P E o t (E x) (lo.map E) (hi.map E) (mx.map E) Q
  | .build t parts => optQ (apure P E o) fun v => forceA v Q
  | o => optQ (apure P E o) Q
theorem wpPure_spec {E : Operand → AV} {o : Op} {Q : AV → Prop} (h : wpPure P E o Q) : ∃ v, apure P E o = some v ∧ Q v := by
  unfold wpPure at h
  split at h
  · rename_i c a b
    split at h
    · rename_i t ht
      refine ⟨if t then E a else E b, by simp only [apure, ht], ?_⟩
      cases t
      · exact h
      · exact h
    · exact h.elim
  · rename_i op t x y pos
    unfold wpBin at h
    split at h
    · rename_i k a k' b hx hy
      have hg : ∀ op', op' ≠ .eql → op' ≠ .neq → guardOk P op' t x y (AV.i k a) (AV.i k' b) = true := by
        intro op' h1 h2; cases op' <;> first | rfl | exact absurd rfl h1 | exact absurd rfl h2
      split at h
      · obtain ⟨hk, g⟩ := br_false_right h
        have hk' : k = k' := of_decide_eq_true hk
        subst hk'
        have hb : b ≠ 0 ∧ Q (.i k (k.wrap (a.tdiv b))) := by
          rcases br_elim g with ⟨_, h3⟩ | ⟨_, h3⟩
          · obtain ⟨h1, h2⟩ := br_false_right h3; exact ⟨by simpa using h1, h2⟩
          · exact ⟨h3.1.out, h3.2⟩
        refine ⟨_, ?_, hb.2⟩
        simp only [apure, hx, hy, hg .quo (by simp) (by simp), if_true, abin, aint, if_neg hb.1]
      · obtain ⟨hk, g⟩ := br_false_right h
        have hk' : k = k' := of_decide_eq_true hk
        subst hk'
        have hb : b ≠ 0 ∧ Q (.i k (a.tmod b)) := by
          rcases br_elim g with ⟨_, h3⟩ | ⟨_, h3⟩
          · obtain ⟨h1, h2⟩ := br_false_right h3; exact ⟨by simpa using h1, h2⟩
          · exact ⟨h3.1.out, h3.2⟩
        refine ⟨_, ?_, hb.2⟩
        simp only [apure, hx, hy, hg .rem (by simp) (by simp), if_true, abin, aint, if_neg hb.1]
      · have hb : 0 ≤ b ∧ Q (.i k (k.wrap (a * 2 ^ (min b.toNat k.bits)))) := by
          rcases br_elim h with ⟨_, h⟩ | ⟨_, h⟩
          · obtain ⟨h1, h2⟩ := br_false_right h; exact ⟨by simpa using h1, h2⟩
          · exact ⟨h.1.out, h.2⟩
        refine ⟨_, ?_, hb.2⟩
        have hb1 : ¬ b < 0 := Int.not_lt.2 hb.1
        simp only [apure, hx, hy, hg .shl (by simp) (by simp), if_true, abin, ashift, if_neg hb1]
      · have hb : 0 ≤ b ∧ Q (.i k (a.fdiv (2 ^ (min b.toNat k.bits)))) := by
          rcases br_elim h with ⟨_, h⟩ | ⟨_, h⟩
          · obtain ⟨h1, h2⟩ := br_false_right h; exact ⟨by simpa using h1, h2⟩
          · exact ⟨h.1.out, h.2⟩
        refine ⟨_, ?_, hb.2⟩
        have hb1 : ¬ b < 0 := Int.not_lt.2 hb.1
        simp only [apure, hx, hy, hg .shr (by simp) (by simp), if_true, abin, ashift, if_neg hb1]
      · exact optQ_spec h
    · rename_i a b hx hy
      split at h
      · refine ⟨_, ?_, h.2⟩
        have hg : guardOk P .add t x y (AV.s a) (AV.s b) = true := rfl
        simp only [apure, hx, hy, hg, if_true, abin, astr, if_pos h.1.out]
      · exact optQ_spec h
    · rename_i xs ys hx hy
      split at h
      · rename_i t' x' y' p' ho
        cases ho
        obtain ⟨hg, h⟩ := br_false_right h
        obtain ⟨b, hb, hq⟩ := eqQ_spec P h
        exact ⟨_, by simp only [apure, hx, hy, hg, if_true, abin, hb, Option.map_some], hq⟩
      · rename_i t' x' y' p' ho
        cases ho
        obtain ⟨hg, h⟩ := br_false_right h
        obtain ⟨b, hb, hq⟩ := eqQ_spec P h
        exact ⟨_, by simp only [apure, hx, hy, hg, if_true, abin, hb, Option.map_some], hq⟩
      · exact h.elim
    · exact optQ_spec h
  · rename_i t x ix
    unfold wpIndex at h
    split at h
    · rename_i a k i hu hx hi
      obtain ⟨h0, b, hb, hq⟩ := h
      exact ⟨_, by simp only [apure, hx, hi, aindex, hu, if_pos h0.out, hb.out, Option.map_some], hq⟩
    · rename_i n e xs k i hu hx hi
      rcases br_elim h with ⟨_, h⟩ | ⟨_, h⟩
      · exact optQ_spec h
      · obtain ⟨sz, hsz, h0, h⟩ := optQ_spec h
        rcases br_elim h with ⟨_, v, hv, hq⟩ | ⟨ha, h⟩
        · exact ⟨v, by simp only [apure, hx, hi, aindex, hu, hsz, Option.bind_some, if_pos h0.out, hv.out], hq⟩
        · have hn : (P.underlying e).isNone = false := by
            unfold sc at h
            cases hue : P.underlying e with
            | none => rw [hue] at h; exact h.elim
            | some d => rfl
          obtain ⟨v, hv, hq⟩ := sc_spec P h
          refine ⟨v, ?_, hq⟩
          simp only [apure, hx, hi, aindex, hu, hsz, Option.bind_some, if_pos h0.out, partOf, hn, Bool.false_eq_true, if_false, ha, hv.out]
    · exact h.elim
  · rename_i t x ix
    unfold wpIndexAddr at h
    split at h
    · rename_i n e id off k i hu hx hi
      obtain ⟨sz, hsz, h0, hq⟩ := optQ_spec h
      exact ⟨_, by simp only [apure, hx, hi, aindexAddr, hu, hsz, Option.bind_some, if_pos h0.out], hq⟩
    · rename_i e id off len esz cap k i hu hx hi
      obtain ⟨hz, h0, hq⟩ := br_false_right h
      have hz' : asz P e = some esz := by simpa using hz
      refine ⟨_, ?_, hq⟩
      simp only [apure, hx, hi, aindexAddr, hu]
      rw [if_pos ⟨hz', h0.out⟩]
    · exact h.elim
  · rename_i t x lo hi mx
    unfold wpSlice at h
    split at h
    · rename_i a hu hx hm
      obtain ⟨n, hn, h⟩ := wpBnd_spec h
      obtain ⟨l, hl, hq⟩ := wpBnd_spec h
      exact ⟨_, by simp only [apure, hx, aslice, hu, hm, hn, Option.bind_some, hl, Option.map_some], hq⟩
    · rename_i e id off len esz cap hu hx hm
      obtain ⟨hz, h⟩ := br_false_right h
      have hz' : asz P e = some esz := by simpa using hz
      obtain ⟨n, hn, h⟩ := wpBnd_spec h
      obtain ⟨l, hl, hq⟩ := wpBnd_spec h
      exact ⟨_, by simp only [apure, hx, aslice, hu, hm, hz', if_true, hn, Option.bind_some, hl, Option.map_some], hq⟩
    · rename_i e hu hx hm
      obtain ⟨hz, h⟩ := br_false_right h
      obtain ⟨n, hn, h⟩ := wpBnd_spec h
      obtain ⟨l, hl, hq⟩ := wpBnd_spec h
      exact ⟨_, by simp only [apure, hx, aslice, hu, hm, hz, if_true, hn, Option.bind_some, hl, Option.map_some], hq⟩
    · exact optQ_spec h
  · obtain ⟨v, h1, h2⟩ := optQ_spec h
    rw [forceA_eq] at h2
    exact ⟨v, h1, h2⟩
  · exact optQ_spec h
def isText (src dst : TypeId) : Bool := match P.underlying src, P.underlying dst with
  | some (.slice e), some .string => match P.underlying e with
    | some (.int .u8) => true
    | _ => false
  | _, _ => false
def textOf (l : List Int) : ByteArray := ⟨(l.map fun n => UInt8.ofNat n.toNat).toArray⟩
def flatTs : Nat → TypeId → Option (List TypeId)
  | 0, _ => none
  | d + 1, t => match P.underlying t with
    | some (.int _) => some [t]
    | some .string => some [t]
    | some .bool => some [t]
    | some (.struct fs) => (fs.toList.map fun f => flatTs d f.type).foldr (fun a b => a.bind fun x => b.map fun y => x ++ y) (some [])
    | _ => none
def scs : List TypeId → (List AV → Prop) → Prop
  | [], p => p []
  | t :: r, p => sc P t fun v => scs r fun vs => p (v :: vs)
theorem scs_spec : ∀ {ts : List TypeId} {p : List AV → Prop}, scs P ts p → ∃ vs, vs.length = ts.length ∧ p vs
  | [], p, h => ⟨[], rfl, h⟩
  | t :: r, p, h => by
    obtain ⟨v, h⟩ := sc_spec P h
    obtain ⟨vs, h1, h2⟩ := scs_spec h
    exact ⟨v :: vs, by simp [h1], h2⟩
def wpFlat (c : List AV) (off : Nat) (t : TypeId) (ts : List TypeId) (Q : AV → Prop) : Prop :=
  br (aggB P t && decide (asz P t = some ts.length)) (scs P ts fun vs => Holds ((c.drop off).take vs.length = vs) ∧ Q (.ag vs)) False
def wpRead (E : Operand → AV) (h : Hp) (o : Op) (Q : AV → Prop) : Prop :=
  match o with
  | .load t x => match E x with
    | .p id off => optQ (hcells h id) fun q => br (P.underlying t).isNone False (br (isSc P t) (br (aggB P t) False (sc P t fun v => Holds (q.1[off]? = some v) ∧ Q v)) (match flatTs P 8 t with
      | some (t0 :: ts) => wpFlat P q.1 off t (t0 :: ts) Q
      | _ => optQ (aload P h t (E x)) Q))
    | _ => False
  | .convert src dst x => match E x with
    | .sl id off len esz cap => br (isText P src dst && esz == 1) (optQ (hcells h id) fun q => Holds (off + len ≤ q.1.length) ∧ ∃ l, Holds (numsOf ((q.1.drop off).take len) = some l) ∧ Q (.s (textOf l))) False
    | _ => optQ (aread P E h o) Q
  | _ => optQ (aread P E h o) Q
theorem wpRead_spec {E : Operand → AV} {h : Hp} {o : Op} {Q : AV → Prop} (hq : wpRead P E h o Q) : ∃ v, aread P E h o = some v ∧ Q v := by
  unfold wpRead at hq
  split at hq
  · rename_i t x
    split at hq
    · rename_i id off hx
      obtain ⟨⟨c, wr⟩, hc, hq⟩ := optQ_spec hq
      obtain ⟨hn, hq⟩ := br_false_left hq
      rcases br_elim hq with ⟨_, hq⟩ | ⟨_, hq⟩
      · obtain ⟨ha, hq⟩ := br_false_left hq
        obtain ⟨v, hv, hq⟩ := sc_spec P hq
        exact ⟨v, by simp only [aread, aload, hx, hc, Option.bind_some, hn, Bool.false_eq_true, if_false, ha, hv.out], hq⟩
      · split at hq
        · rename_i t0 ts hts
          obtain ⟨hz, hq⟩ := br_false_right hq
          simp only [Bool.and_eq_true, decide_eq_true_eq] at hz
          obtain ⟨vs, hl, hv, hq⟩ := scs_spec P hq
          have hv := hv.out
          have hlen : vs.length = ts.length + 1 := by simpa using hl
          have h1 := congrArg List.length hv
          rw [List.length_take, List.length_drop] at h1
          have h1 : min vs.length (c.length - off) = vs.length := h1
          have h2 : off + vs.length ≤ c.length := by omega
          have h3 : (t0 :: ts).length = vs.length := hl.symm
          refine ⟨.ag vs, ?_, hq⟩
          simp only [aread, aload, hx, hc, Option.bind_some, hn, Bool.false_eq_true, if_false, hz.1, hz.2, if_true, h3, if_pos h2]
          rw [hv]
        · obtain ⟨v, hv, hq⟩ := optQ_spec hq
          exact ⟨v, by simpa only [aread] using hv, hq⟩
    · exact hq.elim
  · rename_i src dst x
    split at hq
    · rename_i id off len esz cap hx
      obtain ⟨ht, hq⟩ := br_false_right hq
      obtain ⟨⟨c, wr⟩, hc, hl, l, hn, hq⟩ := optQ_spec hq
      refine ⟨_, ?_, hq⟩
      simp only [Bool.and_eq_true, beq_iff_eq] at ht
      obtain ⟨ht, rfl⟩ := ht
      unfold isText at ht
      split at ht
      · rename_i e hs hd
        split at ht
        · rename_i he
          simp only [aread, atext, hs, hd, he, hx, hc, Option.bind_some, if_pos hl.out, hn.out, Option.map_some, textOf]
        · cases ht
      · cases ht
    · exact optQ_spec hq
  · exact optQ_spec hq
def wpSrc (h : Hp) (esz : Nat) (x : AV) (K : Nat → List AV → Prop) : Prop :=
  match x with
  | .sn => K 0 []
  | .sl id off len e _ => br (decide (e = esz)) (optQ (hcells h id) fun q => Holds (off + len * esz ≤ q.1.length) ∧ K len ((q.1.drop off).take (len * esz))) False
  | .s a => br (decide (esz = 1)) (K a.size (bytesAV a)) False
  | _ => False
theorem wpSrc_spec {h : Hp} {esz : Nat} {x : AV} {K : Nat → List AV → Prop} (hq : wpSrc h esz x K) : ∃ n new, srcLen x = some n ∧ srcCells h esz n x = some new ∧ K n new := by
  unfold wpSrc at hq
  split at hq
  · exact ⟨0, [], rfl, rfl, hq⟩
  · rename_i id off len e cap
    obtain ⟨he, hq⟩ := br_false_right hq
    have he' : e = esz := by simpa using he
    obtain ⟨⟨c, wr⟩, hc, hl, hq⟩ := optQ_spec hq
    refine ⟨len, _, rfl, ?_, hq⟩
    simp only [srcCells, if_pos (show e = esz ∧ len ≤ len from ⟨he', Nat.le_refl _⟩), hc, Option.bind_some, if_pos hl.out]
  · rename_i a
    obtain ⟨he, hq⟩ := br_false_right hq
    have he' : esz = 1 := by simpa using he
    refine ⟨a.size, _, rfl, ?_, hq⟩
    simp only [srcCells, if_pos (show esz = 1 ∧ a.size ≤ a.size from ⟨he', Nat.le_refl _⟩)]
    rw [ByteArray.extract_zero_size]
  · exact hq.elim
def lenK (h : Hp) (K : Nat → Prop) : Prop := match h with
  | [] => K 0
  | [_] => K 1
  | [_, _] => K 2
  | [_, _, _] => K 3
  | [_, _, _, _] => K 4
  | [_, _, _, _, _] => K 5
  | [_, _, _, _, _, _] => K 6
  | [_, _, _, _, _, _, _] => K 7
  | [_, _, _, _, _, _, _, _] => K 8
  | [_, _, _, _, _, _, _, _, _] => K 9
  | [_, _, _, _, _, _, _, _, _, _] => K 10
  | [_, _, _, _, _, _, _, _, _, _, _] => K 11
  | [_, _, _, _, _, _, _, _, _, _, _, _] => K 12
  | h => K h.length
theorem lenK_eq (h : Hp) (K : Nat → Prop) : lenK h K = K h.length := by
  unfold lenK
  split <;> rfl
def wpAppend (h : Hp) (t : TypeId) (s x : AV) (Q : AV → Hp → Prop) : Prop :=
  match P.underlying t with
  | some (.slice e) => optQ (aelem P e) fun sb => wpSrc h sb.1 x fun n new =>
      match s with
      | .sn => br (n == 0) (Q .sn h) (Holds (n * sb.2 ≤ 140737488355328) ∧ lenK h fun k => Q (.sl k 0 n sb.1 none) (h ++ [.cells new true]))
      | .sl id off len esz cap => br (decide (esz = sb.1)) (br (n == 0) (Q (.sl id off len esz cap) h) (optQ (hcells h id) fun q =>
          match cap with
          | none => br q.2 (Holds ((len + n) * sb.2 ≤ 140737488355328) ∧ Holds (new.all AV.one = true) ∧ Holds (off + len * esz = q.1.length) ∧ lenK h fun k => Q (.sl k 0 (len + n) esz none) (h.set id .dead ++ [.cells (q.1.drop off ++ new) true])) False
          | some c => Holds ((len + n) * sb.2 ≤ 140737488355328 ∧ off + len * esz ≤ q.1.length) ∧
            br (decide (len + n ≤ c)) (br q.2 (Holds (off + (len + n) * esz ≤ q.1.length ∧ new.all AV.one = true) ∧ Q (.sl id off (len + n) esz (some c)) (h.set id (.cells (setAll q.1 (off + len * esz) new) true))) False)
              (lenK h fun k => Q (.sl k 0 (len + n) esz none) (h ++ [.cells ((q.1.drop off).take (len * esz) ++ new) true])))) False
      | _ => False
  | _ => False
theorem wpAppend_spec {h : Hp} {t : TypeId} {s x : AV} {Q : AV → Hp → Prop} (hq : wpAppend P h t s x Q) : ∃ q, aappend P h t s x = some q ∧ Q q.1 q.2 := by
  unfold wpAppend at hq
  simp only [lenK_eq] at hq
  split at hq
  · rename_i e hu
    obtain ⟨sb, hsb, hq⟩ := optQ_spec hq
    have hpos : 0 < sb.1 := by
      unfold aelem at hsb
      split at hsb
      · split at hsb
        · cases hsb; exact Nat.succ_pos _
        · cases hsb
      · cases hsb
    obtain ⟨n, new, hn, hnew, hq⟩ := wpSrc_spec hq
    cases s with
    | sn =>
      simp only at hq
      rcases br_elim hq with ⟨h0, hq⟩ | ⟨h0, hb, hq⟩
      · have h0' : n = 0 := by simpa using h0
        exact ⟨(.sn, h), by simp only [aappend, hu, hsb, Option.bind_some, hn, hnew, if_pos h0'], hq⟩
      · have h0' : n ≠ 0 := by simpa using h0
        exact ⟨(_, _), by simp only [aappend, hu, hsb, Option.bind_some, hn, hnew, if_neg h0', if_pos hb.out], hq⟩
    | sl id off len esz cap =>
      simp only at hq
      obtain ⟨he, hq⟩ := br_false_right hq
      have he' : esz = sb.1 := by simpa using he
      rcases br_elim hq with ⟨h0, hq⟩ | ⟨h0, hq⟩
      · have h0' : n = 0 := by simpa using h0
        exact ⟨(_, _), by simp only [aappend, hu, hsb, Option.bind_some, hn, hnew, if_pos he', if_pos h0'], hq⟩
      · have h0' : n ≠ 0 := by simpa using h0
        obtain ⟨⟨c, wr⟩, hc, hq⟩ := optQ_spec hq
        simp only at hq
        cases cap with
        | none =>
          obtain ⟨hwr, h1, h2, h3, hq⟩ := br_false_right hq
          have h3 := h3.out
          have h4 : ¬ off + (len + n) * esz ≤ c.length := by
            have : esz ≤ n * esz := Nat.le_mul_of_pos_left _ (Nat.pos_of_ne_zero h0')
            rw [Nat.add_mul]; omega
          have h5 : (len + n) * sb.2 ≤ 140737488355328 ∧ off + len * esz ≤ c.length := ⟨h1.out, by omega⟩
          refine ⟨(_, _), ?_, hq⟩
          simp only [aappend, hu, hsb, Option.bind_some, hn, hnew, if_pos he', if_neg h0', hc, if_pos h5]
          rw [if_pos ⟨hwr, h2.out⟩, if_neg h4, if_pos h3]
        | some cp =>
          obtain ⟨h1, hq⟩ := hq
          rcases br_elim hq with ⟨h2, hq⟩ | ⟨h2, hq⟩
          · have h2' : len + n ≤ cp := by simpa using h2
            obtain ⟨hwr, h3, hq⟩ := br_false_right hq
            refine ⟨(_, _), ?_, hq⟩
            simp only [aappend, hu, hsb, Option.bind_some, hn, hnew, if_pos he', if_neg h0', hc, if_pos h1.out, if_pos h2']
            rw [if_pos ⟨hwr, h3.out⟩]
          · have h2' : ¬ len + n ≤ cp := by simpa using h2
            refine ⟨(_, _), ?_, hq⟩
            simp only [aappend, hu, hsb, Option.bind_some, hn, hnew, if_pos he', if_neg h0', hc, if_pos h1.out, if_neg h2']
    | _ => exact hq.elim
  · exact hq.elim
def wpMake (h : Hp) (t : TypeId) (len cap : AV) (Q : AV → Hp → Prop) : Prop :=
  match P.underlying t, len, cap with
  | some (.slice e), .i .i64 l, .i .i64 c => match asz P e, abyt P e with
    | some (k + 1), some b => br (decide (b ≤ 256)) (Holds (0 ≤ l ∧ l ≤ c ∧ c ≤ 549755813888) ∧ optQ (zeroC P e) fun z => br (decide (z.length = k + 1)) (lenK h fun m => Q (.sl m 0 l.toNat (k + 1) (some c.toNat)) (h ++ [.cells (repl c.toNat z) true])) False) False
    | _, _ => False
  | _, _, _ => False
theorem wpMake_spec {h : Hp} {t : TypeId} {len cap : AV} {Q : AV → Hp → Prop} (hq : wpMake P h t len cap Q) : ∃ q, amakeSlice P h t len cap = some q ∧ Q q.1 q.2 := by
  unfold wpMake at hq
  simp only [lenK_eq] at hq
  split at hq
  · rename_i e l c hu
    split at hq
    · rename_i k b hz hb
      obtain ⟨hb', h1, hq⟩ := br_false_right hq
      have hb' : b ≤ 256 := of_decide_eq_true hb'
      have h1 := h1.out
      obtain ⟨z, hzz, hq⟩ := optQ_spec hq
      obtain ⟨h2, hq⟩ := br_false_right hq
      have hm : (b : Int) * c ≤ 256 * c := Int.mul_le_mul_of_nonneg_right (by omega) (by omega)
      have h3 : 0 ≤ l ∧ l ≤ c ∧ c ≤ 9223372036854775807 ∧ b * c ≤ 140737488355328 := ⟨h1.1, h1.2.1, by omega, by omega⟩
      refine ⟨(_, _), ?_, hq⟩
      simp only [amakeSlice, hu, hz, hb, if_pos h3, hzz, Option.bind_some]
      rw [if_pos (by simpa using h2)]
    · exact hq.elim
  · exact hq.elim
def wpStore (h : Hp) (t : TypeId) (x v : AV) (Q : AV → Hp → Prop) : Prop :=
  match x with
  | .p id off => optQ (hcells h id) fun q => br (q.2 && v.good && decide (asz P t = some v.cells.length) && v.cells.all AV.one) (Holds (off + v.cells.length ≤ q.1.length) ∧ Q und (h.set id (.cells (setAll q.1 off v.cells) true))) False
  | _ => False
theorem wpStore_spec {h : Hp} {t : TypeId} {x v : AV} {Q : AV → Hp → Prop} (hq : wpStore P h t x v Q) : ∃ h', astore P h t x v = some h' ∧ Q und h' := by
  unfold wpStore at hq
  split at hq
  · obtain ⟨⟨c, wr⟩, hc, hq⟩ := optQ_spec hq
    obtain ⟨h1, h2, hq⟩ := br_false_right hq
    simp only [Bool.and_eq_true, decide_eq_true_eq] at h1
    refine ⟨_, ?_, hq⟩
    simp only [astore, hc, Option.bind_some]
    rw [if_pos ⟨h1.1.1.1, h1.1.1.2, h1.1.2, h1.2, h2.out⟩]
  · exact hq.elim
variable (T : TEnv)
def wpCall (E : Operand → AV) (h : Hp) (o : Op) (c : Call) (Q : AV → Hp → Prop) : Prop :=
  match c.callee with
  | .value f => match E f with
    | .fn g caps => T g (c.args.toList.map E ++ caps) h Q
    | _ => False
  | .builtin .append => match c.args.toList, c.argTypes.toList with
    | [s, x], [t, u] => match P.underlying u with
      | some (.slice _) => wpAppend P h t (E s) (E x) Q
      | some .string => wpAppend P h t (E s) (E x) Q
      | _ => False
    | _, _ => False
  | _ => optQ (aeff P noEnv E h o) fun q => Q q.1 q.2
def lastCells (h : Hp) (q : AV × Hp) (Q : AV → Hp → Prop) : Prop := match q.2.drop h.length with
  | [.cells c wr] => forceL c fun c => Q q.1 (h ++ [.cells c wr])
  | _ => False
theorem lastCells_spec {h : Hp} {q : AV × Hp} {Q : AV → Hp → Prop} (hp : q.2.take h.length = h) (hq : lastCells h q Q) : Q q.1 q.2 := by
  unfold lastCells at hq
  split at hq
  · rename_i c wr hd
    rw [forceL_eq] at hq
    rw [← hd] at hq
    have : q.2 = h ++ q.2.drop h.length := by
      conv => lhs; rw [← List.take_append_drop h.length q.2, hp]
    rw [this]; exact hq
  · exact hq.elim
def slAt (k : Nat) (v : AV) (Q : AV → Prop) : Prop := match v with
  | .sl id off len esz cap => br (decide (id = k)) (Q (.sl k off len esz cap)) False
  | _ => False
theorem slAt_spec {k : Nat} {v : AV} {Q : AV → Prop} (h : slAt k v Q) : Q v := by
  unfold slAt at h
  split at h
  · obtain ⟨h1, h2⟩ := br_false_right h
    obtain rfl := of_decide_eq_true h1
    exact h2
  · exact h.elim
def wpNext (h : Hp) (x : AV) (isS : Bool) (Q : AV → Hp → Prop) : Prop := match x, isS with
  | .p id 0, true => match h.getD id .dead with
    | .iter a pos => br (decide (pos < a.size)) (∀ (r n : Nat), Holds (Utf8.decode a pos = (r, n)) → Q (.tu [.bo true, .i .i64 pos, .i .i32 r]) (h.set id (.iter a (pos + n)))) (Q (.tu [.bo false]) h)
    | _ => False
  | _, _ => False
theorem wpNext_spec {h : Hp} {x : AV} {isS : Bool} {Q : AV → Hp → Prop} (hq : wpNext h x isS Q) : ∃ q, anext h x isS = some q ∧ Q q.1 q.2 := by
  unfold wpNext at hq
  unfold anext
  split at hq
  · rename_i id
    split at hq
    · rename_i a pos e
      have e' : h[id]? = some (.iter a pos) := by
        rw [List.getD_eq_getElem?_getD] at e
        cases hx : h[id]? with
        | none => rw [hx] at e; cases e
        | some B => rw [hx] at e; exact congrArg some e
      simp only [e']
      rcases br_elim hq with ⟨hb, hq⟩ | ⟨hb, hq⟩
      · rw [if_pos (of_decide_eq_true hb)]
        exact ⟨_, rfl, hq _ _ ⟨rfl⟩⟩
      · rw [if_neg (of_decide_eq_false hb)]
        exact ⟨_, rfl, hq⟩
    · exact hq.elim
  · exact hq.elim
def wpEff (E : Operand → AV) (h : Hp) (o : Op) (Q : AV → Hp → Prop) : Prop :=
  match o with
  | .alloc t => lenK h fun k => optQ ((zeroC P t).map fun c => ((.p k 0 : AV), h ++ [.cells c true])) fun q => lastCells h q Q
  | .box t x => lenK h fun k => optQ (if (E x).good then some ((.p k 0 : AV), h ++ [.cells (E x).cells true]) else none) fun q => lastCells h q Q
  | .buildSlice t len parts => optQ (abuildSlice P h t len (parts.toList.map fun q => (q.1, E q.2))) fun q => lastCells h q fun v h' => lenK h fun k => slAt k v fun v => Q v h'
  | .store t a x => wpStore P h t (E a) (E x) Q
  | .makeSlice t l c => wpMake P h t (E l) (E c) Q
  | .call c => wpCall P T E h o c Q
  | .next it b => wpNext h (E it) b Q
  | o => optQ (aeff P noEnv E h o) fun q => Q q.1 q.2
variable {T}
theorem wpEff_spec {Γ : Env} (hT : Follows T Γ) {E : Operand → AV} {h : Hp} {o : Op} {Q : AV → Hp → Prop} (hq : wpEff P T E h o Q) : ∃ q, aeff P Γ E h o = some q ∧ Q q.1 q.2 := by
  unfold wpEff at hq
  split at hq
  · rw [lenK_eq] at hq
    obtain ⟨q, h1, h2⟩ := optQ_spec hq
    refine ⟨q, by simpa only [aeff] using h1, lastCells_spec ?_ h2⟩
    obtain ⟨c, _, rfl⟩ := Option.map_eq_some_iff.1 h1
    simp
  · rw [lenK_eq] at hq
    obtain ⟨q, h1, h2⟩ := optQ_spec hq
    refine ⟨q, by simpa only [aeff] using h1, lastCells_spec ?_ h2⟩
    split at h1
    · cases h1; simp
    · cases h1
  · obtain ⟨q, h1, h2⟩ := optQ_spec hq
    have hp : q.2.take h.length = h := by
      unfold abuildSlice at h1
      split at h1
      · split at h1
        · split at h1
          · obtain ⟨z, _, h1⟩ := Option.bind_eq_some_iff.1 h1
            split at h1
            · obtain ⟨c, _, rfl⟩ := Option.map_eq_some_iff.1 h1
              simp
            · cases h1
          · cases h1
        · cases h1
      · cases h1
    have h3 := lastCells_spec hp h2
    rw [lenK_eq] at h3
    exact ⟨q, by simpa only [aeff] using h1, slAt_spec h3⟩
  · obtain ⟨h', h1, h2⟩ := wpStore_spec P hq
    exact ⟨(und, h'), by simp only [aeff, h1, Option.map_some], h2⟩
  · obtain ⟨q, h1, h2⟩ := wpMake_spec P hq
    exact ⟨q, by simpa only [aeff] using h1, h2⟩
  · rename_i c
    unfold wpCall at hq
    split at hq
    · rename_i f hf
      split at hq
      · rename_i g caps hg
        obtain ⟨r, h', h1, h2⟩ := hT _ _ _ _ hq
        exact ⟨(r, h'), by simp only [aeff, acall, hf, hg, h1], h2⟩
      · exact hq.elim
    · rename_i hb
      split at hq
      · rename_i s x t u ha ht
        have hq' : wpAppend P h t (E s) (E x) Q := by
          split at hq
          · exact hq
          · exact hq
          · exact hq.elim
        obtain ⟨q, h1, h2⟩ := wpAppend_spec P hq'
        refine ⟨q, ?_, h2⟩
        simp only [aeff, acall, hb, ha, ht]
        split at hq
        · rename_i hu; simp only [hu, h1]
        · rename_i hu; simp only [hu, h1]
        · exact hq.elim
      · exact hq.elim
    · rename_i hv hb
      obtain ⟨q, h1, h2⟩ := optQ_spec hq
      refine ⟨q, ?_, h2⟩
      rw [← h1]
      simp only [aeff, acall]
      cases hc : c.callee with
      | value f => exact absurd hc (hv f)
      | builtin b => cases b <;> first | rfl | exact absurd hc hb
      | invoke a b => rfl
  · obtain ⟨q, h1, h2⟩ := wpNext_spec hq
    exact ⟨q, by simpa only [aeff] using h1, h2⟩
  · rename_i g1 g2 g3 h1 h2 h3 h4
    obtain ⟨q, k1, k2⟩ := optQ_spec hq
    refine ⟨q, ?_, k2⟩
    rw [← k1]
    cases o <;> first | rfl | exact (g1 _ rfl).elim | exact (g2 _ _ rfl).elim | exact (g3 _ _ _ rfl).elim | exact (h1 _ _ _ rfl).elim | exact (h2 _ _ _ rfl).elim | exact (h3 _ rfl).elim | exact (h4 _ _ rfl).elim
end
end Go.Proofs.Ytnfbgfmdjaodgaa.Eng
