/- Words of addresses of eight groups: the document's way through a text's parts, and the cut at a gap, are one. -/
import Derived.Test.YtohaalilplngnaaDoorClassMb
set_option linter.unusedVariables false
set_option linter.unusedSimpArgs false
open Go Go.Proofs.YtohaalilplngnaaDoor.Eng Go.RowKit
namespace Go.Proofs.YtohaalilplngnaaDoor.ClassRun
def hexW (w : List UInt8) : Int := hexS (ofL w)
theorem hexW_nil : hexW [] < 0 := by decide
/-- All groups of some words. -/
def all6 : List (List UInt8) → Option (List Int)
  | [] => some []
  | w :: ws => if hexW w < 0 then none else (all6 ws).map (hexW w :: ·)
def hexesP (ws : List (List UInt8)) : Option (List Int) := if ws = [[]] then some [] else all6 ws
/-- The words ahead of the first gap, and behind it. -/
def gapAt : List (List UInt8) → Option (List (List UInt8) × List (List UInt8))
  | w :: p :: ps => match p, ps with
    | [], q :: qs => some ([w], q :: qs)
    | p, ps => (gapAt (p :: ps)).map fun z => (w :: z.1, z.2)
  | _ => none
theorem gapAt_hit (w q : List UInt8) (qs : List (List UInt8)) : gapAt (w :: [] :: q :: qs) = some ([w], q :: qs) := by simp [gapAt]
theorem gapAt_last (w p : List UInt8) : gapAt [w, p] = none := by
  cases p <;> simp [gapAt]
theorem gapAt_one (w : List UInt8) : gapAt [w] = none := by simp [gapAt]
theorem gapAt_miss (w : List UInt8) {p : List UInt8} (hp : p ≠ []) (ps : List (List UInt8)) : gapAt (w :: p :: ps) = (gapAt (p :: ps)).map fun z => (w :: z.1, z.2) := by
  cases p with
  | nil => exact absurd rfl hp
  | cons x p => rw [gapAt]; simp
/-- The document's way: the gap's place, the groups. -/
def goP : List (List UInt8) → Option Nat → List Int → Option (Option Nat × List Int)
  | [], g, l => some (g, l)
  | [w], g, l => if w = [] then some (g, l) else if hexW w < 0 then none else some (g, l ++ [hexW w])
  | w :: p :: ps, g, l => if hexW w < 0 then none else if p = [] then (if ps = [] then none else if g.isSome = true then none else goP ps (some (l.length + 1)) (l ++ [hexW w])) else goP (p :: ps) g (l ++ [hexW w])
theorem goP_bad {w : List UInt8} (h : hexW w < 0) (hw : w ≠ []) (ps : List (List UInt8)) (g : Option Nat) (l : List Int) : goP (w :: ps) g l = none := by
  cases ps with
  | nil => rw [goP, if_neg hw, if_pos h]
  | cons p ps => rw [goP, if_pos h]
theorem goP_bad2 {w : List UInt8} (h : hexW w < 0) (p : List UInt8) (ps : List (List UInt8)) (g : Option Nat) (l : List Int) : goP (w :: p :: ps) g l = none := by
  rw [goP, if_pos h]
theorem goP_end {w : List UInt8} (h : ¬ hexW w < 0) (g : Option Nat) (l : List Int) : goP [w] g l = some (g, l ++ [hexW w]) := by
  rw [goP, if_neg (fun e => h (by rw [e]; exact hexW_nil)), if_neg h]
theorem goP_colon (w : List UInt8) (g : Option Nat) (l : List Int) : goP [w, []] g l = none := by
  rw [goP, if_pos rfl, if_pos rfl]
  split <;> rfl
theorem goP_gap {w : List UInt8} (h : ¬ hexW w < 0) (q : List UInt8) (qs : List (List UInt8)) (g : Option Nat) (l : List Int) : goP (w :: [] :: q :: qs) g l = if g.isSome = true then none else goP (q :: qs) (some (l.length + 1)) (l ++ [hexW w]) := by
  rw [goP, if_neg h, if_pos rfl, if_neg (by simp)]
theorem goP_go {w : List UInt8} (h : ¬ hexW w < 0) {p : List UInt8} (hp : p ≠ []) (ps : List (List UInt8)) (g : Option Nat) (l : List Int) : goP (w :: p :: ps) g l = goP (p :: ps) g (l ++ [hexW w]) := by
  rw [goP, if_neg h, if_neg hp]
theorem all6_bad {w : List UInt8} (h : hexW w < 0) (ws : List (List UInt8)) : all6 (w :: ws) = none := by rw [all6, if_pos h]
theorem all6_go {w : List UInt8} (h : ¬ hexW w < 0) (ws : List (List UInt8)) : all6 (w :: ws) = (all6 ws).map (hexW w :: ·) := by rw [all6, if_neg h]
theorem hexesP_more (w p : List UInt8) (ps : List (List UInt8)) : hexesP (w :: p :: ps) = all6 (w :: p :: ps) := by
  rw [hexesP, if_neg (by simp)]
theorem hexesP_ne {w : List UInt8} (h : w ≠ []) (ps : List (List UInt8)) : hexesP (w :: ps) = all6 (w :: ps) := by
  rw [hexesP, if_neg (by intro e; injection e with e1 e2; exact h e1)]
theorem all6_nil (w : List UInt8) (ws : List (List UInt8)) : all6 (w :: [] :: ws) = none := by
  by_cases h : hexW w < 0
  · exact all6_bad h _
  · rw [all6_go h, all6_bad hexW_nil]; rfl
theorem map_app {l x : List Int} {a : Int} (g : Option Nat) (o : Option (List Int)) : (o.map (a :: ·)).map (fun x => (g, l ++ x)) = o.map fun x => (g, (l ++ [a]) ++ x) := by
  cases o <;> simp
/-- Behind a gap, no second one may be. -/
theorem goP_behind (g : Nat) : ∀ (ws : List (List UInt8)) (l : List Int), ws ≠ [] → goP ws (some g) l = (hexesP ws).map fun x => (some g, l ++ x)
  | [], l, h => absurd rfl h
  | [w], l, _ => by
    by_cases hw : w = []
    · subst hw; simp [goP, hexesP]
    · rw [hexesP_ne hw]
      by_cases h : hexW w < 0
      · rw [goP_bad h hw, all6_bad h]; rfl
      · rw [goP_end h, all6_go h]; rfl
  | w :: p :: ps, l, _ => by
    rw [hexesP_more]
    by_cases h : hexW w < 0
    · rw [goP_bad2 h, all6_bad h]; rfl
    · cases p with
      | nil =>
        rw [all6_nil]
        cases ps with
        | nil => rw [goP_colon]; rfl
        | cons q qs => rw [goP_gap h, if_pos (by rfl)]; rfl
      | cons x p =>
        rw [goP_go h (by simp), goP_behind g _ _ (by simp), all6_go h, hexesP_ne (by simp), map_app (x := [])]
/-- Ahead of a gap. -/
theorem goP_ahead : ∀ (ws : List (List UInt8)) (l : List Int), ws ≠ [] → goP ws none l = match gapAt ws with
    | none => (hexesP ws).map fun x => (none, l ++ x)
    | some (a, b) => match all6 a with
      | none => none
      | some x => (hexesP b).map fun y => (some (l.length + x.length), l ++ x ++ y)
  | [], l, h => absurd rfl h
  | [w], l, _ => by
    rw [gapAt_one]
    by_cases hw : w = []
    · subst hw; simp [goP, hexesP]
    · simp only [hexesP_ne hw]
      by_cases h : hexW w < 0
      · rw [goP_bad h hw, all6_bad h]; rfl
      · rw [goP_end h, all6_go h]; rfl
  | w :: p :: ps, l, _ => by
    by_cases h : hexW w < 0
    · rw [goP_bad2 h]
      cases e : gapAt (w :: p :: ps) with
      | none => simp only [hexesP_more, all6_bad h]; rfl
      | some z =>
        have : ∃ t, z.1 = w :: t := by
          cases p with
          | nil => cases ps with
            | nil => rw [gapAt_last] at e; cases e
            | cons q qs => rw [gapAt_hit] at e; cases e; exact ⟨[], rfl⟩
          | cons x p =>
            rw [gapAt_miss _ (by simp)] at e
            obtain ⟨y, _, rfl⟩ := Option.map_eq_some_iff.1 e
            exact ⟨_, rfl⟩
        obtain ⟨a, b⟩ := z
        obtain ⟨t, rfl⟩ := this
        simp only [all6_bad h]
    · cases p with
      | nil => cases ps with
        | nil => rw [goP_colon, gapAt_last]; simp only [hexesP_more, all6_nil]; rfl
        | cons q qs =>
          rw [goP_gap h, if_neg (by simp), gapAt_hit, goP_behind _ _ _ (by simp)]
          simp only [all6_go h]
          rfl
      | cons x p =>
        rw [goP_go h (by simp), goP_ahead _ _ (by simp), gapAt_miss _ (by simp)]
        cases e : gapAt ((x :: p) :: ps) with
        | none => simp only [Option.map_none, hexesP_more, hexesP_ne (show x :: p ≠ [] by simp)]; rw [all6_go h, map_app (x := [])]
        | some z =>
          obtain ⟨a, b⟩ := z
          simp only [Option.map_some, all6_go h]
          cases all6 a with
          | none => rfl
          | some y =>
            simp only [Option.map_some, List.length_append, List.length_cons, List.length_nil, List.append_assoc, List.singleton_append, List.cons_append, List.nil_append]
            cases hexesP b with
            | none => rfl
            | some v => simp only [Option.map_some]; congr 3; omega
def refP : List (List UInt8) → Option (Option Nat × List Int)
  | [] :: [] :: q :: qs => goP (q :: qs) (some 0) []
  | ws => goP ws none []
theorem refP_eq {ws : List (List UInt8)} (hne : ws ≠ []) : refP ws = match gapAt ws with
    | none => (hexesP ws).map fun x => (none, x)
    | some (a, b) => match hexesP a with
      | none => none
      | some x => (hexesP b).map fun y => (some x.length, x ++ y) := by
  unfold refP
  split
  · rename_i q qs
    rw [gapAt_hit, goP_behind _ _ _ (by simp)]
    simp only [hexesP, ↓reduceIte]
    rfl
  · rename_i hno
    rw [goP_ahead _ _ hne]
    cases e : gapAt ws with
    | none => simp
    | some z =>
      obtain ⟨a, b⟩ := z
      have : hexesP a = all6 a := by
        rw [hexesP, if_neg]
        rintro rfl
        match ws, e with
        | w :: p :: ps, e =>
          cases p with
          | nil => cases ps with
            | nil => rw [gapAt_last] at e; cases e
            | cons q qs =>
              rw [gapAt_hit] at e
              simp only [Option.some.injEq, Prod.mk.injEq, List.cons.injEq, and_true] at e
              obtain ⟨rfl, _⟩ := e
              exact hno q qs rfl
          | cons x p =>
            rw [gapAt_miss _ (by simp)] at e
            obtain ⟨y, hy, e⟩ := Option.map_eq_some_iff.1 e
            obtain ⟨y1, y2⟩ := y
            simp only [Prod.mk.injEq, List.cons.injEq] at e
            obtain ⟨⟨_, rfl⟩, _⟩ := e
            match ps, hy with
            | [], hy => rw [gapAt_one] at hy; cases hy
            | r :: ps, hy =>
              cases r with
              | nil => cases ps with
                | nil => rw [gapAt_last] at hy; cases hy
                | cons q qs => rw [gapAt_hit] at hy; simp at hy
              | cons y r =>
                rw [gapAt_miss _ (by simp)] at hy
                obtain ⟨z, _, e⟩ := Option.map_eq_some_iff.1 hy
                simp at e
      simp only [this]
      cases all6 a with
      | none => rfl
      | some x => simp
/-- The eight groups. -/
def laid6 (x y : List Int) : List Int := x ++ (List.replicate (8 - (x.length + y.length)) 0 ++ y)
def parse6P (ws : List (List UInt8)) : Option (List Int) := match gapAt ws with
  | none => match hexesP ws with
    | some l => if l.length = 8 then some l else none
    | none => none
  | some (a, b) => match hexesP a with
    | none => none
    | some x => match hexesP b with
      | none => none
      | some y => if x.length + y.length < 8 then some (laid6 x y) else none
def ref6 : Option (Option Nat × List Int) → Option (List Int)
  | none => none
  | some (none, l) => if l.length = 8 then some l else none
  | some (some g, l) => if l.length ≤ 7 then some (laid6 (l.take g) (l.drop g)) else none
theorem ref6_eq {ws : List (List UInt8)} (hne : ws ≠ []) : ref6 (refP ws) = parse6P ws := by
  rw [refP_eq hne, parse6P]
  cases e : gapAt ws with
  | none => cases hexesP ws <;> rfl
  | some z =>
    obtain ⟨a, b⟩ := z
    simp only
    cases hexesP a with
    | none => rfl
    | some x =>
      simp only
      cases hexesP b with
      | none => rfl
      | some y =>
        simp only [Option.map_some, ref6, List.length_append, List.take_left, List.drop_left]
        by_cases h : x.length + y.length < 8
        · rw [if_pos h, if_pos (by omega)]
        · rw [if_neg h, if_neg (by omega)]
/-! ### the cut at two colons -/
def cut2 : List UInt8 → Option (List UInt8 × List UInt8)
  | [] => none
  | b :: l => if b = 58 ∧ l.head? = some 58 then some ([], l.tail) else (cut2 l).map fun z => (b :: z.1, z.2)
def sp2 (z : List UInt8 × List UInt8) : List (List UInt8) × List (List UInt8) := (splitU 58 z.1, splitU 58 z.2)
theorem gapAt_head (b : UInt8) (h : List UInt8) : ∀ (t : List (List UInt8)), gapAt ((b :: h) :: t) = (gapAt (h :: t)).map fun z => (match z.1 with
    | y :: ys => (b :: y) :: ys
    | [] => [], z.2)
  | [] => by simp [gapAt]
  | p :: ps => by
    cases p with
    | nil => cases ps with
      | nil => rw [gapAt_last, gapAt_last]; rfl
      | cons q qs => rw [gapAt_hit, gapAt_hit]; rfl
    | cons x p =>
      rw [gapAt_miss _ (by simp), gapAt_miss _ (by simp)]
      cases gapAt ((x :: p) :: ps) <;> rfl
theorem gapAt_cut2 : ∀ (l : List UInt8), gapAt (splitU 58 l) = (cut2 l).map sp2
  | [] => by simp [splitU, gapAt, cut2]
  | b :: l => by
    have ih := gapAt_cut2 l
    by_cases hb : b = 58
    · subst hb
      rw [splitU_hit]
      match l, ih with
      | [], _ => simp [splitU, gapAt, cut2]
      | x :: l', ih =>
        by_cases hx : x = 58
        · subst hx
          rw [splitU_hit, cut2, if_pos ⟨rfl, rfl⟩]
          match e : splitU 58 l' with
          | [] => exact absurd e (splitU_ne _ _)
          | q :: qs => rw [gapAt_hit]; simp [sp2, e, splitU]
        · rw [cut2, if_neg (by simp [hx])]
          rw [splitU_miss hx] at ih ⊢
          match e : splitU 58 l' with
          | [] => exact absurd e (splitU_ne _ _)
          | q :: qs =>
            rw [e] at ih
            simp only at ih ⊢
            rw [gapAt_miss _ (by simp), ih]
            cases cut2 (x :: l') with
            | none => rfl
            | some z => simp only [Option.map_some, sp2, splitU_hit]
    · rw [cut2, if_neg (by simp [hb]), splitU_miss hb]
      match e : splitU 58 l with
      | [] => exact absurd e (splitU_ne _ _)
      | q :: qs =>
        rw [e] at ih
        simp only
        rw [gapAt_head, ih]
        cases cut2 l with
        | none => rfl
        | some z => 
          simp only [Option.map_some, sp2]
          rw [splitU_miss hb]
          match e2 : splitU 58 z.1 with
          | [] => exact absurd e2 (splitU_ne _ _)
          | a :: c => rfl
theorem cut2_eq : ∀ (l : List UInt8), (Lib.index l [58, 58] = -1 ∧ cut2 l = none) ∨ (∃ i : Nat, Lib.index l [58, 58] = i ∧ cut2 l = some (l.take i, l.drop (i + 2)))
  | [] => .inl ⟨rfl, rfl⟩
  | b :: l => by
    have pre : List.isPrefixOf [58, 58] (b :: l) = decide (b = 58 ∧ l.head? = some 58) := by
      match l with
      | [] => simp [List.isPrefixOf]
      | x :: l => 
        simp only [List.isPrefixOf, List.head?_cons, Option.some.injEq, Bool.and_true]
        rw [Bool.eq_iff_iff, Bool.and_eq_true, beq_iff_eq, beq_iff_eq, decide_eq_true_eq]
        exact ⟨fun h => ⟨h.1.symm, h.2.symm⟩, fun h => ⟨h.1.symm, h.2.symm⟩⟩
    by_cases h : b = 58 ∧ l.head? = some 58
    · refine .inr ⟨0, ?_, ?_⟩
      · rw [Lib.index, pre, if_pos (by simpa using h)]; rfl
      · rw [cut2, if_pos h]
        match l, h with
        | x :: l, _ => rfl
    · rcases cut2_eq l with ⟨h1, h2⟩ | ⟨i, h1, h2⟩
      · refine .inl ⟨?_, ?_⟩
        · rw [Lib.index, pre, if_neg (by simpa using h), h1]; rfl
        · rw [cut2, if_neg h, h2]; rfl
      · refine .inr ⟨i + 1, ?_, ?_⟩
        · rw [Lib.index, pre, if_neg (by simpa using h), h1, if_neg (by rw [beq_iff_eq]; omega)]; omega
        · rw [cut2, if_neg h, h2]; rfl
theorem cut_gap (l : List UInt8) : Lib.cut l [58, 58] = match cut2 l with
    | none => (l, [], false)
    | some (a, b) => (a, b, true) := by
  unfold Lib.cut
  rcases cut2_eq l with ⟨h1, h2⟩ | ⟨i, h1, h2⟩
  · rw [h1, h2, if_neg (by omega)]
  · rw [h1, h2, if_pos (by omega), Int.toNat_natCast]; rfl
/-! ### words of a text, one by one -/
theorem splitU_pre {c : UInt8} : ∀ {w : List UInt8} (t : List UInt8), (∀ x ∈ w, x ≠ c) → splitU c (w ++ c :: t) = w :: splitU c t
  | [], t, _ => splitU_hit c t
  | x :: w, t, h => by
    rw [List.cons_append, splitU_miss (h x (by simp)), splitU_pre t fun y hy => h y (by simp [hy])]
theorem splitU_all {c : UInt8} : ∀ {w : List UInt8}, (∀ x ∈ w, x ≠ c) → splitU c w = [w]
  | [], _ => rfl
  | x :: w, h => by
    rw [splitU_miss (h x (by simp)), splitU_all fun y hy => h y (by simp [hy])]
def goL (t : List UInt8) (g : Option Nat) (l : List Int) : Option (Option Nat × List Int) := goP (splitU 58 t) g l
theorem goL_nil (g : Option Nat) (l : List Int) : goL [] g l = some (g, l) := by simp [goL, splitU, goP]
section
variable {w : List UInt8} (hw : ∀ x ∈ w, x ≠ 58)
include hw
theorem goL_bad {t : List UInt8} (ht : t = [] ∨ t.head? = some 58) (hne : w ++ t ≠ []) (h : hexW w < 0) (g : Option Nat) (l : List Int) : goL (w ++ t) g l = none := by
  unfold goL
  rcases ht with rfl | ht
  · rw [List.append_nil] at hne ⊢
    rw [splitU_all hw, goP_bad h hne]
  · match t, ht with
    | x :: t, ht =>
      simp only [List.head?_cons, Option.some.injEq] at ht
      subst ht
      rw [splitU_pre t hw]
      match e : splitU 58 t with
      | [] => exact absurd e (splitU_ne _ _)
      | q :: qs => rw [goP_bad2 h]
theorem goL_end (h : ¬ hexW w < 0) (g : Option Nat) (l : List Int) : goL w g l = some (g, l ++ [hexW w]) := by
  rw [goL, splitU_all hw, goP_end h]
theorem goL_colon (g : Option Nat) (l : List Int) : goL (w ++ [58]) g l = none := by
  rw [goL, splitU_pre [] hw]; exact goP_colon _ _ _
theorem goL_gap (h : ¬ hexW w < 0) (t : List UInt8) (g : Option Nat) (l : List Int) : goL (w ++ 58 :: 58 :: t) g l = if g.isSome = true then none else goL t (some (l.length + 1)) (l ++ [hexW w]) := by
  rw [goL, splitU_pre _ hw, splitU_hit, goL]
  match e : splitU 58 t with
  | [] => exact absurd e (splitU_ne _ _)
  | q :: qs => rw [goP_gap h]
theorem goL_go (h : ¬ hexW w < 0) {x : UInt8} (hx : x ≠ 58) (t : List UInt8) (g : Option Nat) (l : List Int) : goL (w ++ 58 :: x :: t) g l = goL (x :: t) g (l ++ [hexW w]) := by
  rw [goL, splitU_pre _ hw, goL, splitU_miss hx]
  match e : splitU 58 t with
  | [] => exact absurd e (splitU_ne _ _)
  | q :: qs => simp only; rw [goP_go h (by simp)]
end
theorem refP_gap (t : List UInt8) : refP (splitU 58 (58 :: 58 :: t)) = goL t (some 0) [] := by
  rw [splitU_hit, splitU_hit, goL]
  match e : splitU 58 t with
  | [] => exact absurd e (splitU_ne _ _)
  | q :: qs => rfl
theorem refP_none {t : List UInt8} (h : ¬ (t.head? = some 58 ∧ t.tail.head? = some 58)) : refP (splitU 58 t) = goL t none [] := by
  rw [goL]
  unfold refP
  split
  · rename_i q qs e
    exfalso
    match t, h, e with
    | [], _, e => simp [splitU] at e
    | [x], _, e =>
      by_cases hx : x = 58
      · subst hx; rw [splitU_hit] at e; simp [splitU] at e
      · rw [splitU_miss hx] at e; simp [splitU] at e
    | x :: y :: t, h, e =>
      by_cases hx : x = 58
      · subst hx
        rw [splitU_hit] at e
        simp only [List.cons.injEq, true_and] at e
        by_cases hy : y = 58
        · exact h ⟨rfl, by rw [hy]; rfl⟩
        · rw [splitU_miss hy] at e
          cases e2 : splitU 58 t with
          | nil => exact absurd e2 (splitU_ne _ _)
          | cons a b => rw [e2] at e; simp at e
      · rw [splitU_miss hx] at e
        cases e2 : splitU 58 (y :: t) with
        | nil => exact absurd e2 (splitU_ne _ _)
        | cons a b => rw [e2] at e; simp at e
  · rfl
end Go.Proofs.YtohaalilplngnaaDoor.ClassRun
