/- parts: a text's groups, in their order. -/
import Derived.Test.YtohaalilplngnaaDoorClassM6
import Derived.Test.YtohaalilplngnaaDoorClassMb
set_option linter.unusedVariables false
set_option linter.unusedSimpArgs false
open Go Go.Proofs.YtohaalilplngnaaDoor.Eng Go.RowKit
namespace Go.Proofs.YtohaalilplngnaaDoor.ClassRun
def head43 : Nat → Option Head := fun r => match r with
  | 5 => some (Head.two (nilAt 4) (Get.and (Get.sl 12) (Get.int 14)) (fun q => ⟨[.bad, .bad, .bad, .bad, .sn] ++ bads 7 ++ [.sl 0 0 q.1.1 1 (some q.1.1), .i .i64 (q.1.1 : Nat), .i .i64 q.2] ++ bads 16, [.cells q.1.2 true]⟩)
      (Get.and (Get.sl 12) (Get.and (Get.int 14) (Get.sl 4))) (fun q => ⟨[.bad, .bad, .bad, .bad, .sl 1 0 q.2.2.1 1 none] ++ bads 7 ++ [.sl 0 0 q.1.1 1 (some q.1.1), .i .i64 (q.1.1 : Nat), .i .i64 q.2.1] ++ bads 16, [.cells q.1.2 true, .cells q.2.2.2 true]⟩))
  | _ => none
set_option maxRecDepth 100000 in
theorem vc43 (Sp : ByteArray → ByteArray → List ByteArray) (D : Int → Int → ByteArray → Int → Int × Bool) (s : ByteArray) (R : AV → Hp → Prop) : (wpFn P (tcons 39 (tparts Sp) (tcons 58 (tdig D) tnil)) noW head43 0 Go.Proofs.Tryd.f43 [.s s] [] R) = (br (ByteArray.toList s == ByteArray.toList (⟨#[]⟩ : ByteArray)) (R (AV.tu [AV.sn, AV.bo true]) []) (Holds (ByteArray.size s ≤ (4096 : Nat) ∧ (1 : Nat) ≤ ByteArray.size { data := #[(58 : UInt8)] }) ∧ ∀ (L : List ByteArray), Holds (Sp s { data := #[(58 : UInt8)] } = L) → Wk (0 : Nat) { t := [.bad, .bad, .bad, .bad, AV.sn, .bad, .bad, .bad, .bad, .bad, .bad, .bad, AV.sl (0 : Nat) (0 : Nat) (List.length L) (1 : Nat) (some (List.length L)), AV.i IntKind.i64 (↑(List.length L) : Int), AV.i IntKind.i64 (0 : Int), .bad, .bad, .bad, .bad, .bad, .bad, .bad, .bad, .bad, .bad, .bad, .bad, .bad, .bad, .bad, .bad], h := [Blk.cells (List.map AV.s L) true] } { t := [.bad, .bad, .bad, .bad, AV.sn, .bad, .bad, .bad, .bad, .bad, .bad, .bad, AV.sl (0 : Nat) (0 : Nat) (List.length L) (1 : Nat) (some (List.length L)), AV.i IntKind.i64 (↑(Prod.fst (Prod.fst ((List.length L, List.map AV.s L), (0 : Int)))) : Int), AV.i IntKind.i64 (0 : Int), .bad, .bad, .bad, .bad, .bad, .bad, .bad, .bad, .bad, .bad, .bad, .bad, .bad, .bad, .bad, .bad], h := [Blk.cells (List.map AV.s L) true] } ∧ ∃ (I : Nat → (Nat × List AV) × Int ⊕ (Nat × List AV) × Int × Nat × List AV → Prop), ∃ (n : Nat), I n (Sum.inl ((List.length L, List.map AV.s L), (0 : Int))) ∧ (∀ (a : (Nat × List AV) × Int) (n : Nat), I n (Sum.inl a) → br (decide (Prod.snd a < (↑(Prod.fst (Prod.fst a)) : Int))) (Holds ((0 : Int) ≤ Prod.snd a ∧ Prod.snd a < (↑(Prod.fst (Prod.fst a)) : Int)) ∧ ∃ (s : ByteArray), Holds ((Prod.fst a).2[(0 : Nat) + Int.toNat (Prod.snd a) * (1 : Nat)]? = some (AV.s s)) ∧ Holds ((16 : Int) = (10 : Int) ∧ (4 : Int) = (3 : Int) ∨ (16 : Int) = (16 : Int) ∧ (4 : Int) = (4 : Int)) ∧ ∀ (v : Int) (ok : Bool), Holds (D (16 : Int) (4 : Int) s (65535 : Int) = (v, ok)) → br (!ok) (R (AV.tu [AV.sn, AV.bo false]) [Blk.cells (Prod.snd (Prod.fst a)) true]) (Holds ((1 : Nat) ≤ List.length [AV.i IntKind.i64 v]) ∧ Holds ((8 : Nat) ≤ (140737488355328 : Nat)) ∧ Wk (0 : Nat) { t := [.bad, .bad, .bad, .bad, AV.sl (2 : Nat) (0 : Nat) (1 : Nat) (1 : Nat) none, .bad, .bad, .bad, .bad, .bad, .bad, .bad, AV.sl (0 : Nat) (0 : Nat) (Prod.fst (Prod.fst a)) (1 : Nat) (some (Prod.fst (Prod.fst a))), AV.i IntKind.i64 (↑(Prod.fst (Prod.fst a)) : Int), AV.i IntKind.i64 (IntKind.wrap IntKind.i64 (Prod.snd a + (1 : Int))), .bad, .bad, .bad, .bad, .bad, .bad, .bad, .bad, .bad, .bad, .bad, .bad, .bad, .bad, .bad, .bad], h := [Blk.cells (Prod.snd (Prod.fst a)) true, Blk.cells [AV.i IntKind.i64 v] true, Blk.cells [AV.i IntKind.i64 v] true] } { t := [.bad, .bad, .bad, .bad, AV.sl (1 : Nat) (0 : Nat) (1 : Nat) (1 : Nat) none, .bad, .bad, .bad, .bad, .bad, .bad, .bad, AV.sl (0 : Nat) (0 : Nat) (Prod.fst a).1 (1 : Nat) (some (Prod.fst a).1), AV.i IntKind.i64 (↑(Prod.fst (Prod.fst ((Prod.fst (Prod.fst a), Prod.snd (Prod.fst a)), IntKind.wrap IntKind.i64 (Prod.snd a + (1 : Int)), (1 : Nat), List.take ((1 : Nat) * Prod.fst (nat_lit 0 + (1 : Nat), nat_lit 7 + (1 : Nat))) (List.drop (0 : Nat) (Prod.fst ([ev (St.t { t := [.bad, .bad, .bad, .bad, AV.sn, .bad, AV.s s, AV.i IntKind.i64 v, AV.bo ok, .bad, .bad, .bad, AV.sl (0 : Nat) (0 : Nat) (Prod.fst (Prod.fst a)) (1 : Nat) (some (Prod.fst (Prod.fst a))), AV.i IntKind.i64 (↑(Prod.fst (Prod.fst a)) : Int), AV.i IntKind.i64 (Prod.snd a), AV.bo (decide (Prod.snd a < (↑(Prod.fst (Prod.fst a)) : Int))), AV.p (0 : Nat) ((0 : Nat) + Int.toNat (Prod.snd a) * (1 : Nat)), AV.s s, AV.tu [AV.i IntKind.i64 v, AV.bo ok], AV.s s, AV.tu [AV.i IntKind.i64 v, AV.bo ok], AV.i IntKind.i64 v, AV.bo ok, AV.bo ok, AV.bo !ok, AV.sn, AV.i IntKind.i64 v, .bad, .bad, .bad, .bad], h := [Blk.cells (Prod.snd (Prod.fst a)) true] }) (Prod.snd ((0 : Nat), Operand.tmp (26 : Nat)))], true)))))) : Int), AV.i IntKind.i64 (IntKind.wrap IntKind.i64 (Prod.snd a + (1 : Int))), .bad, .bad, .bad, .bad, .bad, .bad, .bad, .bad, .bad, .bad, .bad, .bad, .bad, .bad, .bad, .bad], h := [Blk.cells (Prod.fst a).2 true, Blk.cells [AV.i IntKind.i64 v] true] } ∧ ∃ (m : Nat), Holds (m < n) ∧ I m (Sum.inr ((Prod.fst (Prod.fst a), Prod.snd (Prod.fst a)), IntKind.wrap IntKind.i64 (Prod.snd a + (1 : Int)), (1 : Nat), [AV.i IntKind.i64 v])))) (R (AV.tu [AV.sn, AV.bo true]) [Blk.cells (Prod.snd (Prod.fst a)) true])) ∧ ∀ (b : (Nat × List AV) × Int × Nat × List AV) (n : Nat), I n (Sum.inr b) → br (decide (Prod.fst (Prod.snd b) < (↑(Prod.fst (Prod.fst b)) : Int))) (Holds ((0 : Int) ≤ Prod.fst (Prod.snd b) ∧ Prod.fst (Prod.snd b) < (↑(Prod.fst (Prod.fst b)) : Int)) ∧ ∃ (s : ByteArray), Holds ((Prod.fst b).2[(0 : Nat) + Int.toNat (Prod.fst (Prod.snd b)) * (1 : Nat)]? = some (AV.s s)) ∧ Holds ((16 : Int) = (10 : Int) ∧ (4 : Int) = (3 : Int) ∨ (16 : Int) = (16 : Int) ∧ (4 : Int) = (4 : Int)) ∧ ∀ (v : Int) (ok : Bool), Holds (D (16 : Int) (4 : Int) s (65535 : Int) = (v, ok)) → br (!ok) (R (AV.tu [AV.sn, AV.bo false]) [Blk.cells (Prod.snd (Prod.fst b)) true, Blk.cells (Prod.snd (Prod.snd (Prod.snd b))) true]) (Holds ((1 : Nat) ≤ List.length [AV.i IntKind.i64 v]) ∧ Holds ((Prod.fst (Prod.snd (Prod.snd b)) + (1 : Nat)) * (8 : Nat) ≤ (140737488355328 : Nat)) ∧ Holds (List.all [AV.i IntKind.i64 v] AV.one = true) ∧ Holds ((0 : Nat) + Prod.fst (Prod.snd (Prod.snd b)) * (1 : Nat) = List.length (Prod.snd (Prod.snd b)).2) ∧ Wk (0 : Nat) { t := [.bad, .bad, .bad, .bad, AV.sl (3 : Nat) (0 : Nat) (Prod.fst (Prod.snd (Prod.snd b)) + (1 : Nat)) (1 : Nat) none, .bad, .bad, .bad, .bad, .bad, .bad, .bad, AV.sl (0 : Nat) (0 : Nat) (Prod.fst (Prod.fst b)) (1 : Nat) (some (Prod.fst (Prod.fst b))), AV.i IntKind.i64 (↑(Prod.fst (Prod.fst b)) : Int), AV.i IntKind.i64 (IntKind.wrap IntKind.i64 (Prod.fst (Prod.snd b) + (1 : Int))), .bad, .bad, .bad, .bad, .bad, .bad, .bad, .bad, .bad, .bad, .bad, .bad, .bad, .bad, .bad, .bad], h := [Blk.cells (Prod.snd (Prod.fst b)) true, Blk.dead, Blk.cells [AV.i IntKind.i64 v] true, Blk.cells ((Prod.snd (Prod.snd b)).2 ++ [AV.i IntKind.i64 v]) true] } { t := [.bad, .bad, .bad, .bad, AV.sl (1 : Nat) (0 : Nat) (Prod.fst (Prod.snd (Prod.snd b)) + (1 : Nat)) (1 : Nat) none, .bad, .bad, .bad, .bad, .bad, .bad, .bad, AV.sl (0 : Nat) (0 : Nat) (Prod.fst b).1 (1 : Nat) (some (Prod.fst b).1), AV.i IntKind.i64 (↑(Prod.fst (Prod.fst ((Prod.fst (Prod.fst b), Prod.snd (Prod.fst b)), IntKind.wrap IntKind.i64 (Prod.fst (Prod.snd b) + (1 : Int)), Prod.fst (Prod.snd (Prod.snd b)) + (1 : Nat), List.drop (0 : Nat) (Prod.fst (Prod.snd (Prod.snd (Prod.snd b)), true)) ++ List.take ((1 : Nat) * Prod.fst (nat_lit 0 + (1 : Nat), nat_lit 7 + (1 : Nat))) (List.drop (0 : Nat) (Prod.fst ([ev (St.t { t := [.bad, .bad, .bad, .bad, AV.sl (1 : Nat) (0 : Nat) (Prod.fst (Prod.snd (Prod.snd b))) (1 : Nat) none, .bad, AV.s s, AV.i IntKind.i64 v, AV.bo ok, .bad, .bad, .bad, AV.sl (0 : Nat) (0 : Nat) (Prod.fst (Prod.fst b)) (1 : Nat) (some (Prod.fst (Prod.fst b))), AV.i IntKind.i64 (↑(Prod.fst (Prod.fst b)) : Int), AV.i IntKind.i64 (Prod.fst (Prod.snd b)), AV.bo (decide (Prod.fst (Prod.snd b) < (↑(Prod.fst (Prod.fst b)) : Int))), AV.p (0 : Nat) ((0 : Nat) + Int.toNat (Prod.fst (Prod.snd b)) * (1 : Nat)), AV.s s, AV.tu [AV.i IntKind.i64 v, AV.bo ok], AV.s s, AV.tu [AV.i IntKind.i64 v, AV.bo ok], AV.i IntKind.i64 v, AV.bo ok, AV.bo ok, AV.bo !ok, AV.sl (1 : Nat) (0 : Nat) (Prod.fst (Prod.snd (Prod.snd b))) (1 : Nat) none, AV.i IntKind.i64 v, .bad, .bad, .bad, .bad], h := [Blk.cells (Prod.snd (Prod.fst b)) true, Blk.cells (Prod.snd (Prod.snd (Prod.snd b))) true] }) (Prod.snd ((0 : Nat), Operand.tmp (26 : Nat)))], true)))))) : Int), AV.i IntKind.i64 (IntKind.wrap IntKind.i64 (Prod.fst (Prod.snd b) + (1 : Int))), .bad, .bad, .bad, .bad, .bad, .bad, .bad, .bad, .bad, .bad, .bad, .bad, .bad, .bad, .bad, .bad], h := [Blk.cells (Prod.fst b).2 true, Blk.cells ((Prod.snd (Prod.snd b)).2 ++ [AV.i IntKind.i64 v]) true] } ∧ ∃ (m : Nat), Holds (m < n) ∧ I m (Sum.inr ((Prod.fst (Prod.fst b), Prod.snd (Prod.fst b)), IntKind.wrap IntKind.i64 (Prod.fst (Prod.snd b) + (1 : Int)), Prod.fst (Prod.snd (Prod.snd b)) + (1 : Nat), (Prod.snd (Prod.snd b)).2 ++ [AV.i IntKind.i64 v])))) (R (AV.tu [AV.sl (1 : Nat) (0 : Nat) (Prod.fst (Prod.snd (Prod.snd b))) (1 : Nat) none, AV.bo true]) [Blk.cells (Prod.snd (Prod.fst b)) true, Blk.cells (Prod.snd (Prod.snd (Prod.snd b))) true]))) := by kernel_rfl
theorem fold_lt16 : ∀ {l : List UInt8} {n v : Nat}, foldD dig16 16 l n = some v → v + 1 ≤ (n + 1) * 16 ^ l.length
  | [], n, v, h => by cases h; simp
  | b :: l, n, v, h => by
    unfold foldD at h
    cases e : dig16 b.toNat with
    | none => rw [e] at h; cases h
    | some d =>
      rw [e] at h
      have ih := fold_lt16 h
      have hd : d ≤ 15 := by
        unfold dig16 at e
        split at e
        · cases e; omega
        · split at e
          · cases e; omega
          · split at e
            · cases e; omega
            · cases e
      refine Nat.le_trans ih ?_
      rw [List.length_cons, Nat.pow_succ, Nat.mul_comm (16 ^ l.length) 16, ← Nat.mul_assoc]
      exact Nat.mul_le_mul_right _ (by omega)
theorem dig_hex {s : ByteArray} {v : Int} {ok : Bool} (h : digS dig16 16 4 s 65535 = (v, ok)) : (ok = false → hexS s < 0) ∧ (ok = true → hexS s = v ∧ 0 ≤ v ∧ v ≤ 65535) := by
  unfold digS at h
  unfold hexS
  by_cases h4 : s.size ≤ 4
  · rw [if_pos h4] at h
    cases e : foldD dig16 16 s.data.toList 0 with
    | none =>
      rw [e] at h
      simp only [Prod.mk.injEq] at h
      obtain ⟨rfl, rfl⟩ := h
      exact ⟨fun _ => by split <;> decide, fun h => absurd h (by decide)⟩
    | some n =>
      rw [e] at h
      simp only [Prod.mk.injEq] at h
      obtain ⟨rfl, rfl⟩ := h
      have hb : n ≤ 65535 := by
        have := fold_lt16 e
        rw [size_list] at this
        have hp : 16 ^ s.size ≤ 16 ^ 4 := Nat.pow_le_pow_right (by decide) h4
        have : (16 : Nat) ^ 4 = 65536 := rfl
        omega
      refine ⟨fun h => ?_, fun h => ?_⟩
      · rw [Bool.and_eq_false_iff, decide_eq_false_iff_not, decide_eq_false_iff_not] at h
        rw [if_neg (by omega)]; decide
      · rw [Bool.and_eq_true, decide_eq_true_eq, decide_eq_true_eq] at h
        rw [if_pos ⟨h.1, h4⟩]
        exact ⟨rfl, by omega, by omega⟩
  · rw [if_neg h4] at h
    simp only [Prod.mk.injEq] at h
    obtain ⟨rfl, rfl⟩ := h
    exact ⟨fun _ => by rw [if_neg (by omega)]; decide, fun h => absurd h (by decide)⟩
theorem all6_append : ∀ (a b : List (List UInt8)), all6 (a ++ b) = (all6 a).bind fun x => (all6 b).map (x ++ ·)
  | [], b => by simp [all6]
  | w :: a, b => by
    by_cases h : hexW w < 0
    · rw [List.cons_append, all6_bad h, all6_bad h]; rfl
    · rw [List.cons_append, all6_go h, all6_go h, all6_append a b]
      cases all6 a with
      | none => rfl
      | some x => cases all6 b <;> simp
theorem all6_none {k : Nat} {ws : List (List UInt8)} (hk : k < ws.length) (h : hexW ws[k] < 0) : all6 ws = none := by
  have e : ws = ws.take k ++ (ws[k] :: ws.drop (k + 1)) := by rw [← List.drop_eq_getElem_cons hk, List.take_append_drop]
  rw [e, all6_append, all6_bad h]
  cases all6 (ws.take k) <;> rfl
theorem all6_step {k : Nat} {ws : List (List UInt8)} {acc : List Int} (hk : k < ws.length) (ha : all6 (ws.take k) = some acc) (h : ¬ hexW ws[k] < 0) : all6 (ws.take (k + 1)) = some (acc ++ [hexW ws[k]]) := by
  rw [List.take_add_one, List.getElem?_eq_getElem hk, Option.toList_some, all6_append, ha, all6_go h]
  rfl
theorem all6_len : ∀ {ws : List (List UInt8)} {acc : List Int}, all6 ws = some acc → acc.length = ws.length
  | [], acc, h => by cases h; rfl
  | w :: ws, acc, h => by
    by_cases g : hexW w < 0
    · rw [all6_bad g] at h; cases h
    · rw [all6_go g] at h
      obtain ⟨x, hx, rfl⟩ := Option.map_eq_some_iff.1 h
      simp [all6_len hx]
theorem splitU_single {c : UInt8} {l : List UInt8} (h : splitU c l = [[]]) : l = [] := by
  cases l with
  | nil => rfl
  | cons x l =>
    by_cases hx : x = c
    · subst hx; rw [splitU_hit] at h
      have := splitU_ne x l
      simp_all
    · rw [splitU_miss hx] at h
      cases e : splitU c l with
      | nil => exact absurd e (splitU_ne _ _)
      | cons a b => rw [e] at h; simp at h
/-- What a function answers that reads groups' words. -/
def resPa : Option (List Int) → AV × Hp
  | none => (.tu [.sn, .bo false], [])
  | some [] => (.tu [.sn, .bo true], [])
  | some (e :: es) => (.tu [.sl 0 0 (es.length + 1) 1 none, .bo true], [.cells ((e :: es).map (AV.i .i64)) true])
theorem paBad {o : Option (List Int)} {R : AV → Hp → Prop} (hR : Done 0 (resPa o) R) (ho : o = none) {h1 : Hp} : R (.tu [.sn, .bo false]) h1 := by
  subst ho; exact Done.flat hR rfl (Nat.zero_le _)
theorem paNil {o : Option (List Int)} {R : AV → Hp → Prop} (hR : Done 0 (resPa o) R) (ho : o = some []) {h1 : Hp} : R (.tu [.sn, .bo true]) h1 := by
  subst ho; exact Done.flat hR rfl (Nat.zero_le _)
theorem paRow {o : Option (List Int)} {R : AV → Hp → Prop} (hR : Done 0 (resPa o) R) {l : List Int} (ho : o = some l) (hl : l ≠ []) {h1 : Hp} {id len : Nat} (hlen : len = l.length) (hid : h1[id]? = some (.cells (l.map (AV.i .i64)) true)) : R (.tu [.sl id 0 len 1 none, .bo true]) h1 := by
  subst ho hlen
  cases l with
  | nil => exact absurd rfl hl
  | cons e es => exact Done.row hR hid (Nat.zero_le _) (unders_map 0 _ (fun _ => rfl) _) fun f hf => by simp [reA, reAs, hf, sh]
theorem bytes_empty {s : ByteArray} : (ByteArray.toList s == ByteArray.toList (⟨#[]⟩ : ByteArray)) = decide (s.data.toList = []) := by
  rw [list_beq]
  cases e : s.data.toList with
  | nil => rfl
  | cons a b => rfl
set_option maxRecDepth 100000 in
theorem run43 {s : ByteArray} (hs : s.size ≤ 4096) (Sp : ByteArray → ByteArray → List ByteArray) (hSp : Sp s ⟨#[58]⟩ = partsB s 58) (R : AV → Hp → Prop) (hR : Done 0 (resPa (hexesP (splitU 58 s.data.toList))) R) : Holds (wpFn P (tcons 39 (tparts Sp) (tcons 58 (tdig digF) tnil)) noW head43 0 Go.Proofs.Tryd.f43 [.s s] [] R) := by
  refine ⟨?_⟩
  rw [vc43, bytes_empty, hSp]
  have hlen := splitU_len 58 s.data.toList
  rw [size_list] at hlen
  refine br_intro (fun h => ?_) (fun h => ⟨⟨hs, Nat.le_refl 1⟩, ?_⟩)
  · rw [decide_eq_true_eq] at h
    exact paNil hR (by rw [h]; rfl)
  rw [decide_eq_false_iff_not] at h
  have hx : hexesP (splitU 58 s.data.toList) = all6 (splitU 58 s.data.toList) := if_neg fun e => h (splitU_single e)
  rw [hx] at hR
  unfold partsB
  generalize hw : splitU 58 s.data.toList = ws at *
  have hne : ws ≠ [] := by rw [← hw]; exact splitU_ne _ _
  have hpos : 0 < ws.length := List.length_pos_iff.2 hne
  rintro L ⟨rfl⟩
  have word {k : Nat} (hk : k < ws.length) : ((ws.map ofL).map AV.s)[0 + k * 1]? = some (.s (ofL ws[k])) := by
    rw [Nat.zero_add, Nat.mul_one, List.getElem?_map, List.getElem?_map, List.getElem?_eq_getElem hk]; rfl
  have LL : (ws.map ofL).length = ws.length := List.length_map _
  refine ⟨Wk.refl _ _, fun m q => ∃ (k : Nat) (acc : List Int), k + m = ws.length ∧ all6 (ws.take k) = some acc ∧ (match q with
    | .inl q => k = 0 ∧ q.1 = ((ws.map ofL).length, (ws.map ofL).map AV.s) ∧ q.2 = (k : Int)
    | .inr q => 0 < k ∧ q.1 = ((ws.map ofL).length, (ws.map ofL).map AV.s) ∧ q.2.1 = (k : Int) ∧ q.2.2 = (acc.length, acc.map (AV.i .i64))), ws.length, ⟨0, [], by omega, rfl, rfl, rfl, rfl⟩, ?_, ?_⟩
  · rintro ⟨q, i⟩ m ⟨k, acc, hm, hacc, hk0, e1, e2⟩
    simp only at e1 e2
    subst e1 e2 hk0
    refine br_intro (fun hi => ?_) (fun hi => ?_)
    · refine ⟨⟨Int.le_refl _, of_decide_eq_true hi⟩, _, ⟨word hpos⟩, ⟨by decide⟩, ?_⟩
      rintro v ok ⟨hd⟩
      have hd := dig_hex (s := ofL ws[0]) hd
      cases ok with
      | false =>
        exact br_intro (fun _ => paBad hR (all6_none hpos (hd.1 rfl))) (fun h => absurd h (by decide))
      | true =>
        obtain ⟨h1, h2, h3⟩ := hd.2 rfl
        refine br_intro (fun h => absurd h (by decide)) (fun _ => ⟨⟨Nat.le_refl 1⟩, ⟨by decide⟩, Wk.rows [0, 2] (by decide) rfl rfl (gcR_two rfl (flat_s _) rfl rfl) (by kernel_rfl), m - 1, ⟨by omega⟩, 1, acc ++ [hexW ws[0]], by omega, all6_step hpos hacc (by unfold hexW; rw [h1]; omega), by omega, rfl, rfl, ?_⟩)
        simp only [List.take_zero, all6, Option.some.injEq] at hacc
        subst hacc
        simp only [List.nil_append, List.length_singleton, List.map_cons, List.map_nil, hexW, h1]
    · simp only [decide_eq_false_iff_not, LL] at hi
      omega
  · rintro ⟨q, i, n, cs⟩ m ⟨k, acc, hm, hacc, hk0, e1, e2, e3⟩
    simp only [Prod.mk.injEq] at e1 e2 e3
    obtain ⟨rfl, rfl⟩ := e3
    subst e1 e2
    have hal := all6_len hacc
    rw [List.length_take] at hal
    refine br_intro (fun hi => ?_) (fun hi => ?_)
    · simp only [decide_eq_true_eq, LL] at hi
      have hk : k < ws.length := by omega
      have w1 : IntKind.wrap .i64 ((k : Int) + 1) = ((k + 1 : Nat) : Int) := by rw [i64w (by omega) (by omega)]; omega
      simp only [Int.toNat_natCast, w1]
      refine ⟨⟨Int.natCast_nonneg _, by rw [LL]; omega⟩, _, ⟨word hk⟩, ⟨by decide⟩, ?_⟩
      rintro v ok ⟨hd⟩
      have hd := dig_hex (s := ofL ws[k]) hd
      cases ok with
      | false =>
        exact br_intro (fun _ => paBad hR (all6_none hk (hd.1 rfl))) (fun h => absurd h (by decide))
      | true =>
        obtain ⟨h1, h2, h3⟩ := hd.2 rfl
        have hc : acc.map (AV.i .i64) ++ [AV.i .i64 v] = (acc ++ [hexW ws[k]]).map (AV.i .i64) := by simp [hexW, h1]
        rw [hc]
        refine br_intro (fun h => absurd h (by decide)) (fun _ => ⟨⟨Nat.le_refl 1⟩, ⟨by omega⟩, ⟨rfl⟩, ⟨by rw [List.length_map]; omega⟩, Wk.rows [0, 3] (by decide) rfl rfl (gcR_two rfl (flat_s _) rfl (unders_map 0 _ (fun _ => rfl) _)) (by kernel_rfl), m - 1, ⟨by omega⟩, k + 1, acc ++ [hexW ws[k]], by omega, all6_step hk hacc (by unfold hexW; rw [h1]; omega), by omega, by trivial, by trivial, ?_⟩)
        simp
    · simp only [decide_eq_false_iff_not, LL] at hi
      obtain rfl : k = ws.length := by omega
      rw [List.take_length] at hacc
      exact paRow hR hacc (fun h => by rw [h] at hal; simp at hal; omega) rfl rfl
end Go.Proofs.YtohaalilplngnaaDoor.ClassRun
