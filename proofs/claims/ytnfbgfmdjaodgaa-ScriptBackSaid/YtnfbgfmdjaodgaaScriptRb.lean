/- Events are read by the program. -/
import Derived.Test.YtnfbgfmdjaodgaaScriptRa
set_option linter.unusedVariables false
set_option linter.unusedSimpArgs false
open Go Go.Proofs.Ytnfbgfmdjaodgaa.Eng Go.RowKit
namespace Go.Proofs.Ytnfbgfmdjaodgaa.ScriptRun
/-! reading -/
theorem bget (s : ByteArray) (i : Nat) : s[i]? = s.data.toList[i]? := by
  by_cases h : i < s.size
  · rw [getElem?_pos s i h, List.getElem?_eq_getElem (by rw [size_list]; exact h)]; rfl
  · rw [getElem?_neg s i h, List.getElem?_eq_none (by rw [size_list]; omega)]
theorem or64 {a b : Int} (a0 : 0 ≤ a) (a1 : a < 4294967296) (b0 : 0 ≤ b) (b1 : b < 256) : Go.bits .or .i64 (a * 256) b = a * 256 + b := by
  unfold Go.bits
  have e : (BitVec.ofInt IntKind.i64.bits (a * 256) ||| BitVec.ofInt IntKind.i64.bits b).toNat = a.toNat * 256 + b.toNat := by
    rw [BitVec.toNat_or]
    have h1 : (BitVec.ofInt IntKind.i64.bits (a * 256)).toNat = a.toNat <<< 8 := by
      rw [BitVec.toNat_ofInt, Nat.shiftLeft_eq]
      show ((a * 256) % 18446744073709551616).toNat = _
      omega
    have h2 : (BitVec.ofInt IntKind.i64.bits b).toNat = b.toNat := by
      rw [BitVec.toNat_ofInt]
      show (b % 18446744073709551616).toNat = _
      omega
    rw [h1, h2, ← Nat.shiftLeft_add_eq_or_of_lt (show b.toNat < 2 ^ 8 by omega), Nat.shiftLeft_eq]
  simp only [e]
  rw [i64w (by omega) (by omega)]; omega
theorem byte_lt (b : UInt8) : (b.toNat : Int) < 256 := by have := b.toNat_lt; omega
theorem or1 (b : UInt8) : Go.bits .or .i64 0 (IntKind.wrap .i64 (b.toNat : Int)) = b.toNat := by
  have := byte_lt b
  rw [i64w (by omega) (by omega)]
  have h := or64 (a := 0) (b := b.toNat) (by decide) (by decide) (by omega) (by omega)
  simpa using h
theorem orn {a : Int} (b : UInt8) (a0 : 0 ≤ a) (a1 : a < 16777216) : Go.bits .or .i64 (IntKind.wrap .i64 (a * 256)) (IntKind.wrap .i64 (b.toNat : Int)) = a * 256 + b.toNat := by
  have := byte_lt b
  rw [i64w (x := (b.toNat : Int)) (by omega) (by omega), i64w (by omega) (by omega), or64 a0 (by omega) (by omega) (by omega)]
def be2 (a b : UInt8) : Int := (a.toNat : Int) * 256 + b.toNat
def be3 (a b c : UInt8) : Int := be2 a b * 256 + c.toNat
def be4 (a b c d : UInt8) : Int := be3 a b c * 256 + d.toNat
theorem be2_r (a b : UInt8) : 0 ≤ be2 a b ∧ be2 a b < 65536 := by have := byte_lt a; have := byte_lt b; unfold be2; omega
theorem be3_r (a b c : UInt8) : 0 ≤ be3 a b c ∧ be3 a b c < 16777216 := by have := be2_r a b; have := byte_lt c; unfold be3; omega
theorem be4_r (a b c d : UInt8) : 0 ≤ be4 a b c d ∧ be4 a b c d < 4294967296 := by have := be3_r a b c; have := byte_lt d; unfold be4; omega
theorem or2 (a b : UInt8) : Go.bits .or .i64 (IntKind.wrap .i64 ((a.toNat : Int) * 256)) (IntKind.wrap .i64 (b.toNat : Int)) = be2 a b := by
  have := byte_lt a
  rw [orn b (by omega) (by omega)]; rfl
theorem or3 (a b c : UInt8) : Go.bits .or .i64 (IntKind.wrap .i64 (be2 a b * 256)) (IntKind.wrap .i64 (c.toNat : Int)) = be3 a b c := by
  have := be2_r a b
  rw [orn c (by omega) (by omega)]; rfl
theorem or4 (a b c d : UInt8) : Go.bits .or .i64 (IntKind.wrap .i64 (be3 a b c * 256)) (IntKind.wrap .i64 (d.toNat : Int)) = be4 a b c d := by
  have := be3_r a b c
  rw [orn d (by omega) (by omega)]; rfl
/-- A text of an event, and its end. -/
def txt (k w most y : Int) (s : ByteArray) : Ev × Int × Bool :=
  if y ≤ most ∧ y ≤ s.size - (1 + w) then ((k, 0, s.extract (1 + w).toNat (1 + w + y).toNat), 1 + w + y, true) else ((k, 0, ⟨#[]⟩), 1 + w, false)
/-- The event at a text's beginning, where it ends, and whether it is one: the program's. -/
def rdP (s : ByteArray) : Ev × Int × Bool := match s.data.toList with
  | [] => ((0, 0, ⟨#[]⟩), 0, false)
  | b :: r =>
    if (b.toNat : Int) = 3 then (match r with
      | x1 :: x2 :: x3 :: x4 :: _ => ((b.toNat, be4 x1 x2 x3 x4, ⟨#[]⟩), 5, decide (be4 x1 x2 x3 x4 ≤ 2147483647))
      | _ => ((b.toNat, 0, ⟨#[]⟩), s.size, false)) else
    if (b.toNat : Int) = 4 then (match r with
      | x1 :: x2 :: _ => txt b.toNat 2 300 (be2 x1 x2) s
      | _ => ((b.toNat, 0, ⟨#[]⟩), s.size, false)) else
    if (b.toNat : Int) = 1 ∨ (b.toNat : Int) = 2 then (match r with
      | x1 :: x2 :: x3 :: _ => txt b.toNat 3 65575 (be3 x1 x2 x3) s
      | _ => ((b.toNat, 0, ⟨#[]⟩), s.size, false)) else
    ((b.toNat, 0, ⟨#[]⟩), 1, false)
def resR (q : Ev × Int × Bool) : AV := .tu [.ag (mkEv q.1), .i .i64 q.2.1, .bo q.2.2]
def okS (s : ByteArray) : Prop := s ≠ ⟨#[]⟩ ∧ s.size ≤ 4611686018427387904
theorem run19 {s : ByteArray} (hs : okS s) {R : AV → Hp → Prop} (hR : Done 0 (resR (rdP s), []) R) : Holds (wpFn P T19 W19 noL 0 Go.Proofs.Try.f19 [.s s] [] R) := by
  obtain ⟨hne, hsz⟩ := hs
  have fin : ∀ k n t a b h, ((k, n, t), a, b) = rdP s → R (.tu [.ag [.i .u8 k, .i .i64 n, .s t], .i .i64 a, .bo b]) h := fun k n t a b h e => hR.flat (r := resR (rdP s)) (by rw [← e]; rfl) (Nat.zero_le _) |> fun h => by rw [← e] at h; exact h
  have hl : s.data.toList ≠ [] := fun e => hne (ByteArray.ext (Array.toList_inj.1 e))
  have g := bget s
  have hz := size_list s
  have hx : ∀ i j, s.extract i j = s.extract i j := fun _ _ => rfl
  unfold rdP at fin
  generalize s.data.toList = l at *
  cases l with
  | nil => exact absurd rfl hl
  | cons b r =>
  have h0 : s[0]? = some b := by rw [g]; rfl
  refine ⟨?_⟩
  rw [vc19]
  refine ⟨s, ⟨rfl⟩, ⟨by decide⟩, b, ⟨h0⟩, ?_⟩
  simp only [List.length_cons] at hz
  by_cases c1 : (b.toNat : Int) = 1
  · simp only [↓br_ite, ↓reduceIte, holds_eq, List.getElem?_cons_zero, List.getElem?_cons_succ, Option.some.injEq, AV.i.injEq, AV.s.injEq, AV.bo.injEq, true_and, and_true, List.cons.injEq, List.length_cons, List.length_nil, and_assoc, exists_and_left, exists_eq_left', exists_eq_left, br_true, br_false, Nat.zero_add, Nat.add_zero, Nat.reduceAdd, Nat.reduceLeDiff, Nat.le_refl, numsOf_one, beq_self_eq_true, Int.reduceLE, Int.reduceLT, Int.reduceAdd, Int.reduceSub, Int.reduceMul, Int.reduceNeg, Int.reduceToNat, Int.reducePow, Int.reduceMod, Int.reduceDiv, Int.cast_ofNat_Int, Int.reduceBEq, i64w, decide_true, decide_false, Int.le_refl, Nat.min_def, reduceIte, Int.one_mul, bits64, Int.natCast_add, c1, Bool.false_eq_true, g, or1, or2, or3, or4]
    simp only [c1, Int.reduceEq, if_false, if_true, true_or, or_true] at fin
    match r with
    | [] =>
      simp only [List.length_nil, List.length_cons, Nat.zero_add, Nat.reduceAdd] at hz
      simp only [← hz, holds_eq, List.getElem?_cons_zero, List.getElem?_cons_succ, Option.some.injEq, AV.i.injEq, AV.s.injEq, AV.bo.injEq, true_and, and_true, List.cons.injEq, List.length_cons, List.length_nil, and_assoc, exists_and_left, exists_eq_left', exists_eq_left, br_true, br_false, Nat.zero_add, Nat.add_zero, Nat.reduceAdd, Nat.reduceLeDiff, Nat.le_refl, numsOf_one, beq_self_eq_true, Int.reduceLE, Int.reduceLT, Int.reduceAdd, Int.reduceSub, Int.reduceMul, Int.reduceNeg, Int.reduceToNat, Int.reducePow, Int.reduceMod, Int.reduceDiv, Int.cast_ofNat_Int, Int.reduceBEq, i64w, decide_true, decide_false, Int.le_refl, Nat.min_def, reduceIte, Int.one_mul, bits64, Int.natCast_add, ↓reduceIte, decide_true, decide_false, Bool.false_eq_true, Int.reduceLE, Int.reduceLT, ge_iff_le]
      exact fin _ _ _ _ _ _ (by simp [← hz])
    | [x1] =>
      simp only [List.length_nil, List.length_cons, Nat.zero_add, Nat.reduceAdd] at hz
      simp only [← hz, holds_eq, List.getElem?_cons_zero, List.getElem?_cons_succ, Option.some.injEq, AV.i.injEq, AV.s.injEq, AV.bo.injEq, true_and, and_true, List.cons.injEq, List.length_cons, List.length_nil, and_assoc, exists_and_left, exists_eq_left', exists_eq_left, br_true, br_false, Nat.zero_add, Nat.add_zero, Nat.reduceAdd, Nat.reduceLeDiff, Nat.le_refl, numsOf_one, beq_self_eq_true, Int.reduceLE, Int.reduceLT, Int.reduceAdd, Int.reduceSub, Int.reduceMul, Int.reduceNeg, Int.reduceToNat, Int.reducePow, Int.reduceMod, Int.reduceDiv, Int.cast_ofNat_Int, Int.reduceBEq, i64w, decide_true, decide_false, Int.le_refl, Nat.min_def, reduceIte, Int.one_mul, bits64, Int.natCast_add, ↓reduceIte, decide_true, decide_false, Bool.false_eq_true, Int.reduceLE, Int.reduceLT, ge_iff_le]
      exact fin _ _ _ _ _ _ (by simp [← hz])
    | [x1, x2] =>
      simp only [List.length_nil, List.length_cons, Nat.zero_add, Nat.reduceAdd] at hz
      simp only [← hz, holds_eq, List.getElem?_cons_zero, List.getElem?_cons_succ, Option.some.injEq, AV.i.injEq, AV.s.injEq, AV.bo.injEq, true_and, and_true, List.cons.injEq, List.length_cons, List.length_nil, and_assoc, exists_and_left, exists_eq_left', exists_eq_left, br_true, br_false, Nat.zero_add, Nat.add_zero, Nat.reduceAdd, Nat.reduceLeDiff, Nat.le_refl, numsOf_one, beq_self_eq_true, Int.reduceLE, Int.reduceLT, Int.reduceAdd, Int.reduceSub, Int.reduceMul, Int.reduceNeg, Int.reduceToNat, Int.reducePow, Int.reduceMod, Int.reduceDiv, Int.cast_ofNat_Int, Int.reduceBEq, i64w, decide_true, decide_false, Int.le_refl, Nat.min_def, reduceIte, Int.one_mul, bits64, Int.natCast_add, ↓reduceIte, decide_true, decide_false, Bool.false_eq_true, Int.reduceLE, Int.reduceLT, ge_iff_le]
      exact fin _ _ _ _ _ _ (by simp [← hz])
    | x1 :: x2 :: x3 :: r =>
      have z : (s.size : Int) = r.length + 4 := by simp at hz; omega
      have z1 : ¬ (1 ≥ (s.size : Int)) := by omega
      have z2 : ¬ (2 ≥ (s.size : Int)) := by omega
      have z3 : ¬ (3 ≥ (s.size : Int)) := by omega
      have hy := be3_r x1 x2 x3
      have w1 : IntKind.wrap .i64 ((s.size : Int) - 4) = s.size - 4 := i64w (by omega) (by omega)
      have w2 : IntKind.wrap .i64 (4 + be3 x1 x2 x3) = 4 + be3 x1 x2 x3 := i64w (by omega) (by omega)
      by_cases t1 : be3 x1 x2 x3 ≤ 65575
      · by_cases t2 : be3 x1 x2 x3 ≤ (s.size : Int) - 4
        · simp only [holds_eq, List.getElem?_cons_zero, List.getElem?_cons_succ, Option.some.injEq, AV.i.injEq, AV.s.injEq, AV.bo.injEq, true_and, and_true, List.cons.injEq, List.length_cons, List.length_nil, and_assoc, exists_and_left, exists_eq_left', exists_eq_left, br_true, br_false, Nat.zero_add, Nat.add_zero, Nat.reduceAdd, Nat.reduceLeDiff, Nat.le_refl, numsOf_one, beq_self_eq_true, Int.reduceLE, Int.reduceLT, Int.reduceAdd, Int.reduceSub, Int.reduceMul, Int.reduceNeg, Int.reduceToNat, Int.reducePow, Int.reduceMod, Int.reduceDiv, Int.cast_ofNat_Int, Int.reduceBEq, i64w, decide_true, decide_false, Int.le_refl, Nat.min_def, reduceIte, Int.one_mul, bits64, Int.natCast_add, ↓reduceIte, z1, z2, z3, Bool.false_eq_true, w1, w2, t1, t2]
          refine ⟨by omega, by omega, by omega, fin _ _ _ _ _ _ ?_⟩
          show _ = txt 1 3 65575 (be3 x1 x2 x3) s
          rw [txt, if_pos ⟨t1, by omega⟩]
          rfl
        · simp only [holds_eq, List.getElem?_cons_zero, List.getElem?_cons_succ, Option.some.injEq, AV.i.injEq, AV.s.injEq, AV.bo.injEq, true_and, and_true, List.cons.injEq, List.length_cons, List.length_nil, and_assoc, exists_and_left, exists_eq_left', exists_eq_left, br_true, br_false, Nat.zero_add, Nat.add_zero, Nat.reduceAdd, Nat.reduceLeDiff, Nat.le_refl, numsOf_one, beq_self_eq_true, Int.reduceLE, Int.reduceLT, Int.reduceAdd, Int.reduceSub, Int.reduceMul, Int.reduceNeg, Int.reduceToNat, Int.reducePow, Int.reduceMod, Int.reduceDiv, Int.cast_ofNat_Int, Int.reduceBEq, i64w, decide_true, decide_false, Int.le_refl, Nat.min_def, reduceIte, Int.one_mul, bits64, Int.natCast_add, ↓reduceIte, z1, z2, z3, Bool.false_eq_true, w1, w2, t1, t2]
          refine fin _ _ _ _ _ _ ?_
          show _ = txt 1 3 65575 (be3 x1 x2 x3) s
          rw [txt, if_neg (fun h => t2 (by omega))]
          rfl
      · simp only [holds_eq, List.getElem?_cons_zero, List.getElem?_cons_succ, Option.some.injEq, AV.i.injEq, AV.s.injEq, AV.bo.injEq, true_and, and_true, List.cons.injEq, List.length_cons, List.length_nil, and_assoc, exists_and_left, exists_eq_left', exists_eq_left, br_true, br_false, Nat.zero_add, Nat.add_zero, Nat.reduceAdd, Nat.reduceLeDiff, Nat.le_refl, numsOf_one, beq_self_eq_true, Int.reduceLE, Int.reduceLT, Int.reduceAdd, Int.reduceSub, Int.reduceMul, Int.reduceNeg, Int.reduceToNat, Int.reducePow, Int.reduceMod, Int.reduceDiv, Int.cast_ofNat_Int, Int.reduceBEq, i64w, decide_true, decide_false, Int.le_refl, Nat.min_def, reduceIte, Int.one_mul, bits64, Int.natCast_add, ↓reduceIte, z1, z2, z3, Bool.false_eq_true, w1, w2, t1]
        refine fin _ _ _ _ _ _ ?_
        show _ = txt 1 3 65575 (be3 x1 x2 x3) s
        rw [txt, if_neg (fun h => t1 h.1)]
        rfl
  by_cases c2 : (b.toNat : Int) = 2
  · simp only [↓br_ite, ↓reduceIte, holds_eq, List.getElem?_cons_zero, List.getElem?_cons_succ, Option.some.injEq, AV.i.injEq, AV.s.injEq, AV.bo.injEq, true_and, and_true, List.cons.injEq, List.length_cons, List.length_nil, and_assoc, exists_and_left, exists_eq_left', exists_eq_left, br_true, br_false, Nat.zero_add, Nat.add_zero, Nat.reduceAdd, Nat.reduceLeDiff, Nat.le_refl, numsOf_one, beq_self_eq_true, Int.reduceLE, Int.reduceLT, Int.reduceAdd, Int.reduceSub, Int.reduceMul, Int.reduceNeg, Int.reduceToNat, Int.reducePow, Int.reduceMod, Int.reduceDiv, Int.cast_ofNat_Int, Int.reduceBEq, i64w, decide_true, decide_false, Int.le_refl, Nat.min_def, reduceIte, Int.one_mul, bits64, Int.natCast_add, c2, Bool.false_eq_true, g, or1, or2, or3, or4]
    simp only [c2, Int.reduceEq, if_false, if_true, true_or, or_true] at fin
    match r with
    | [] =>
      simp only [List.length_nil, List.length_cons, Nat.zero_add, Nat.reduceAdd] at hz
      simp only [← hz, holds_eq, List.getElem?_cons_zero, List.getElem?_cons_succ, Option.some.injEq, AV.i.injEq, AV.s.injEq, AV.bo.injEq, true_and, and_true, List.cons.injEq, List.length_cons, List.length_nil, and_assoc, exists_and_left, exists_eq_left', exists_eq_left, br_true, br_false, Nat.zero_add, Nat.add_zero, Nat.reduceAdd, Nat.reduceLeDiff, Nat.le_refl, numsOf_one, beq_self_eq_true, Int.reduceLE, Int.reduceLT, Int.reduceAdd, Int.reduceSub, Int.reduceMul, Int.reduceNeg, Int.reduceToNat, Int.reducePow, Int.reduceMod, Int.reduceDiv, Int.cast_ofNat_Int, Int.reduceBEq, i64w, decide_true, decide_false, Int.le_refl, Nat.min_def, reduceIte, Int.one_mul, bits64, Int.natCast_add, ↓reduceIte, decide_true, decide_false, Bool.false_eq_true, Int.reduceLE, Int.reduceLT, ge_iff_le]
      exact fin _ _ _ _ _ _ (by simp [← hz])
    | [x1] =>
      simp only [List.length_nil, List.length_cons, Nat.zero_add, Nat.reduceAdd] at hz
      simp only [← hz, holds_eq, List.getElem?_cons_zero, List.getElem?_cons_succ, Option.some.injEq, AV.i.injEq, AV.s.injEq, AV.bo.injEq, true_and, and_true, List.cons.injEq, List.length_cons, List.length_nil, and_assoc, exists_and_left, exists_eq_left', exists_eq_left, br_true, br_false, Nat.zero_add, Nat.add_zero, Nat.reduceAdd, Nat.reduceLeDiff, Nat.le_refl, numsOf_one, beq_self_eq_true, Int.reduceLE, Int.reduceLT, Int.reduceAdd, Int.reduceSub, Int.reduceMul, Int.reduceNeg, Int.reduceToNat, Int.reducePow, Int.reduceMod, Int.reduceDiv, Int.cast_ofNat_Int, Int.reduceBEq, i64w, decide_true, decide_false, Int.le_refl, Nat.min_def, reduceIte, Int.one_mul, bits64, Int.natCast_add, ↓reduceIte, decide_true, decide_false, Bool.false_eq_true, Int.reduceLE, Int.reduceLT, ge_iff_le]
      exact fin _ _ _ _ _ _ (by simp [← hz])
    | [x1, x2] =>
      simp only [List.length_nil, List.length_cons, Nat.zero_add, Nat.reduceAdd] at hz
      simp only [← hz, holds_eq, List.getElem?_cons_zero, List.getElem?_cons_succ, Option.some.injEq, AV.i.injEq, AV.s.injEq, AV.bo.injEq, true_and, and_true, List.cons.injEq, List.length_cons, List.length_nil, and_assoc, exists_and_left, exists_eq_left', exists_eq_left, br_true, br_false, Nat.zero_add, Nat.add_zero, Nat.reduceAdd, Nat.reduceLeDiff, Nat.le_refl, numsOf_one, beq_self_eq_true, Int.reduceLE, Int.reduceLT, Int.reduceAdd, Int.reduceSub, Int.reduceMul, Int.reduceNeg, Int.reduceToNat, Int.reducePow, Int.reduceMod, Int.reduceDiv, Int.cast_ofNat_Int, Int.reduceBEq, i64w, decide_true, decide_false, Int.le_refl, Nat.min_def, reduceIte, Int.one_mul, bits64, Int.natCast_add, ↓reduceIte, decide_true, decide_false, Bool.false_eq_true, Int.reduceLE, Int.reduceLT, ge_iff_le]
      exact fin _ _ _ _ _ _ (by simp [← hz])
    | x1 :: x2 :: x3 :: r =>
      have z : (s.size : Int) = r.length + 4 := by simp at hz; omega
      have z1 : ¬ (1 ≥ (s.size : Int)) := by omega
      have z2 : ¬ (2 ≥ (s.size : Int)) := by omega
      have z3 : ¬ (3 ≥ (s.size : Int)) := by omega
      have hy := be3_r x1 x2 x3
      have w1 : IntKind.wrap .i64 ((s.size : Int) - 4) = s.size - 4 := i64w (by omega) (by omega)
      have w2 : IntKind.wrap .i64 (4 + be3 x1 x2 x3) = 4 + be3 x1 x2 x3 := i64w (by omega) (by omega)
      by_cases t1 : be3 x1 x2 x3 ≤ 65575
      · by_cases t2 : be3 x1 x2 x3 ≤ (s.size : Int) - 4
        · simp only [holds_eq, List.getElem?_cons_zero, List.getElem?_cons_succ, Option.some.injEq, AV.i.injEq, AV.s.injEq, AV.bo.injEq, true_and, and_true, List.cons.injEq, List.length_cons, List.length_nil, and_assoc, exists_and_left, exists_eq_left', exists_eq_left, br_true, br_false, Nat.zero_add, Nat.add_zero, Nat.reduceAdd, Nat.reduceLeDiff, Nat.le_refl, numsOf_one, beq_self_eq_true, Int.reduceLE, Int.reduceLT, Int.reduceAdd, Int.reduceSub, Int.reduceMul, Int.reduceNeg, Int.reduceToNat, Int.reducePow, Int.reduceMod, Int.reduceDiv, Int.cast_ofNat_Int, Int.reduceBEq, i64w, decide_true, decide_false, Int.le_refl, Nat.min_def, reduceIte, Int.one_mul, bits64, Int.natCast_add, ↓reduceIte, z1, z2, z3, Bool.false_eq_true, w1, w2, t1, t2]
          refine ⟨by omega, by omega, by omega, fin _ _ _ _ _ _ ?_⟩
          show _ = txt 2 3 65575 (be3 x1 x2 x3) s
          rw [txt, if_pos ⟨t1, by omega⟩]
          rfl
        · simp only [holds_eq, List.getElem?_cons_zero, List.getElem?_cons_succ, Option.some.injEq, AV.i.injEq, AV.s.injEq, AV.bo.injEq, true_and, and_true, List.cons.injEq, List.length_cons, List.length_nil, and_assoc, exists_and_left, exists_eq_left', exists_eq_left, br_true, br_false, Nat.zero_add, Nat.add_zero, Nat.reduceAdd, Nat.reduceLeDiff, Nat.le_refl, numsOf_one, beq_self_eq_true, Int.reduceLE, Int.reduceLT, Int.reduceAdd, Int.reduceSub, Int.reduceMul, Int.reduceNeg, Int.reduceToNat, Int.reducePow, Int.reduceMod, Int.reduceDiv, Int.cast_ofNat_Int, Int.reduceBEq, i64w, decide_true, decide_false, Int.le_refl, Nat.min_def, reduceIte, Int.one_mul, bits64, Int.natCast_add, ↓reduceIte, z1, z2, z3, Bool.false_eq_true, w1, w2, t1, t2]
          refine fin _ _ _ _ _ _ ?_
          show _ = txt 2 3 65575 (be3 x1 x2 x3) s
          rw [txt, if_neg (fun h => t2 (by omega))]
          rfl
      · simp only [holds_eq, List.getElem?_cons_zero, List.getElem?_cons_succ, Option.some.injEq, AV.i.injEq, AV.s.injEq, AV.bo.injEq, true_and, and_true, List.cons.injEq, List.length_cons, List.length_nil, and_assoc, exists_and_left, exists_eq_left', exists_eq_left, br_true, br_false, Nat.zero_add, Nat.add_zero, Nat.reduceAdd, Nat.reduceLeDiff, Nat.le_refl, numsOf_one, beq_self_eq_true, Int.reduceLE, Int.reduceLT, Int.reduceAdd, Int.reduceSub, Int.reduceMul, Int.reduceNeg, Int.reduceToNat, Int.reducePow, Int.reduceMod, Int.reduceDiv, Int.cast_ofNat_Int, Int.reduceBEq, i64w, decide_true, decide_false, Int.le_refl, Nat.min_def, reduceIte, Int.one_mul, bits64, Int.natCast_add, ↓reduceIte, z1, z2, z3, Bool.false_eq_true, w1, w2, t1]
        refine fin _ _ _ _ _ _ ?_
        show _ = txt 2 3 65575 (be3 x1 x2 x3) s
        rw [txt, if_neg (fun h => t1 h.1)]
        rfl
  by_cases c4 : (b.toNat : Int) = 4
  · simp only [↓br_ite, ↓reduceIte, holds_eq, List.getElem?_cons_zero, List.getElem?_cons_succ, Option.some.injEq, AV.i.injEq, AV.s.injEq, AV.bo.injEq, true_and, and_true, List.cons.injEq, List.length_cons, List.length_nil, and_assoc, exists_and_left, exists_eq_left', exists_eq_left, br_true, br_false, Nat.zero_add, Nat.add_zero, Nat.reduceAdd, Nat.reduceLeDiff, Nat.le_refl, numsOf_one, beq_self_eq_true, Int.reduceLE, Int.reduceLT, Int.reduceAdd, Int.reduceSub, Int.reduceMul, Int.reduceNeg, Int.reduceToNat, Int.reducePow, Int.reduceMod, Int.reduceDiv, Int.cast_ofNat_Int, Int.reduceBEq, i64w, decide_true, decide_false, Int.le_refl, Nat.min_def, reduceIte, Int.one_mul, bits64, Int.natCast_add, c4, Bool.false_eq_true, g, or1, or2, or3, or4]
    simp only [c4, Int.reduceEq, if_false, if_true, true_or, or_true] at fin
    match r with
    | [] =>
      simp only [List.length_nil, List.length_cons, Nat.zero_add, Nat.reduceAdd] at hz
      simp only [← hz, holds_eq, List.getElem?_cons_zero, List.getElem?_cons_succ, Option.some.injEq, AV.i.injEq, AV.s.injEq, AV.bo.injEq, true_and, and_true, List.cons.injEq, List.length_cons, List.length_nil, and_assoc, exists_and_left, exists_eq_left', exists_eq_left, br_true, br_false, Nat.zero_add, Nat.add_zero, Nat.reduceAdd, Nat.reduceLeDiff, Nat.le_refl, numsOf_one, beq_self_eq_true, Int.reduceLE, Int.reduceLT, Int.reduceAdd, Int.reduceSub, Int.reduceMul, Int.reduceNeg, Int.reduceToNat, Int.reducePow, Int.reduceMod, Int.reduceDiv, Int.cast_ofNat_Int, Int.reduceBEq, i64w, decide_true, decide_false, Int.le_refl, Nat.min_def, reduceIte, Int.one_mul, bits64, Int.natCast_add, ↓reduceIte, decide_true, decide_false, Bool.false_eq_true, Int.reduceLE, Int.reduceLT, ge_iff_le]
      exact fin _ _ _ _ _ _ (by simp [← hz])
    | [x1] =>
      simp only [List.length_nil, List.length_cons, Nat.zero_add, Nat.reduceAdd] at hz
      simp only [← hz, holds_eq, List.getElem?_cons_zero, List.getElem?_cons_succ, Option.some.injEq, AV.i.injEq, AV.s.injEq, AV.bo.injEq, true_and, and_true, List.cons.injEq, List.length_cons, List.length_nil, and_assoc, exists_and_left, exists_eq_left', exists_eq_left, br_true, br_false, Nat.zero_add, Nat.add_zero, Nat.reduceAdd, Nat.reduceLeDiff, Nat.le_refl, numsOf_one, beq_self_eq_true, Int.reduceLE, Int.reduceLT, Int.reduceAdd, Int.reduceSub, Int.reduceMul, Int.reduceNeg, Int.reduceToNat, Int.reducePow, Int.reduceMod, Int.reduceDiv, Int.cast_ofNat_Int, Int.reduceBEq, i64w, decide_true, decide_false, Int.le_refl, Nat.min_def, reduceIte, Int.one_mul, bits64, Int.natCast_add, ↓reduceIte, decide_true, decide_false, Bool.false_eq_true, Int.reduceLE, Int.reduceLT, ge_iff_le]
      exact fin _ _ _ _ _ _ (by simp [← hz])
    | x1 :: x2 :: r =>
      have z : (s.size : Int) = r.length + 3 := by simp at hz; omega
      have z1 : ¬ (1 ≥ (s.size : Int)) := by omega
      have z2 : ¬ (2 ≥ (s.size : Int)) := by omega
      have hy := be2_r x1 x2
      have w1 : IntKind.wrap .i64 ((s.size : Int) - 3) = s.size - 3 := i64w (by omega) (by omega)
      have w2 : IntKind.wrap .i64 (3 + be2 x1 x2) = 3 + be2 x1 x2 := i64w (by omega) (by omega)
      by_cases t1 : be2 x1 x2 ≤ 300
      · by_cases t2 : be2 x1 x2 ≤ (s.size : Int) - 3
        · simp only [holds_eq, List.getElem?_cons_zero, List.getElem?_cons_succ, Option.some.injEq, AV.i.injEq, AV.s.injEq, AV.bo.injEq, true_and, and_true, List.cons.injEq, List.length_cons, List.length_nil, and_assoc, exists_and_left, exists_eq_left', exists_eq_left, br_true, br_false, Nat.zero_add, Nat.add_zero, Nat.reduceAdd, Nat.reduceLeDiff, Nat.le_refl, numsOf_one, beq_self_eq_true, Int.reduceLE, Int.reduceLT, Int.reduceAdd, Int.reduceSub, Int.reduceMul, Int.reduceNeg, Int.reduceToNat, Int.reducePow, Int.reduceMod, Int.reduceDiv, Int.cast_ofNat_Int, Int.reduceBEq, i64w, decide_true, decide_false, Int.le_refl, Nat.min_def, reduceIte, Int.one_mul, bits64, Int.natCast_add, ↓reduceIte, z1, z2, Bool.false_eq_true, w1, w2, t1, t2]
          refine ⟨by omega, by omega, by omega, fin _ _ _ _ _ _ ?_⟩
          show _ = txt 4 2 300 (be2 x1 x2) s
          rw [txt, if_pos ⟨t1, by omega⟩]
          rfl
        · simp only [holds_eq, List.getElem?_cons_zero, List.getElem?_cons_succ, Option.some.injEq, AV.i.injEq, AV.s.injEq, AV.bo.injEq, true_and, and_true, List.cons.injEq, List.length_cons, List.length_nil, and_assoc, exists_and_left, exists_eq_left', exists_eq_left, br_true, br_false, Nat.zero_add, Nat.add_zero, Nat.reduceAdd, Nat.reduceLeDiff, Nat.le_refl, numsOf_one, beq_self_eq_true, Int.reduceLE, Int.reduceLT, Int.reduceAdd, Int.reduceSub, Int.reduceMul, Int.reduceNeg, Int.reduceToNat, Int.reducePow, Int.reduceMod, Int.reduceDiv, Int.cast_ofNat_Int, Int.reduceBEq, i64w, decide_true, decide_false, Int.le_refl, Nat.min_def, reduceIte, Int.one_mul, bits64, Int.natCast_add, ↓reduceIte, z1, z2, Bool.false_eq_true, w1, w2, t1, t2]
          refine fin _ _ _ _ _ _ ?_
          show _ = txt 4 2 300 (be2 x1 x2) s
          rw [txt, if_neg (fun h => t2 (by omega))]
          rfl
      · simp only [holds_eq, List.getElem?_cons_zero, List.getElem?_cons_succ, Option.some.injEq, AV.i.injEq, AV.s.injEq, AV.bo.injEq, true_and, and_true, List.cons.injEq, List.length_cons, List.length_nil, and_assoc, exists_and_left, exists_eq_left', exists_eq_left, br_true, br_false, Nat.zero_add, Nat.add_zero, Nat.reduceAdd, Nat.reduceLeDiff, Nat.le_refl, numsOf_one, beq_self_eq_true, Int.reduceLE, Int.reduceLT, Int.reduceAdd, Int.reduceSub, Int.reduceMul, Int.reduceNeg, Int.reduceToNat, Int.reducePow, Int.reduceMod, Int.reduceDiv, Int.cast_ofNat_Int, Int.reduceBEq, i64w, decide_true, decide_false, Int.le_refl, Nat.min_def, reduceIte, Int.one_mul, bits64, Int.natCast_add, ↓reduceIte, z1, z2, Bool.false_eq_true, w1, w2, t1]
        refine fin _ _ _ _ _ _ ?_
        show _ = txt 4 2 300 (be2 x1 x2) s
        rw [txt, if_neg (fun h => t1 h.1)]
        rfl
  by_cases c3 : (b.toNat : Int) = 3
  · simp only [↓br_ite, ↓reduceIte, holds_eq, List.getElem?_cons_zero, List.getElem?_cons_succ, Option.some.injEq, AV.i.injEq, AV.s.injEq, AV.bo.injEq, true_and, and_true, List.cons.injEq, List.length_cons, List.length_nil, and_assoc, exists_and_left, exists_eq_left', exists_eq_left, br_true, br_false, Nat.zero_add, Nat.add_zero, Nat.reduceAdd, Nat.reduceLeDiff, Nat.le_refl, numsOf_one, beq_self_eq_true, Int.reduceLE, Int.reduceLT, Int.reduceAdd, Int.reduceSub, Int.reduceMul, Int.reduceNeg, Int.reduceToNat, Int.reducePow, Int.reduceMod, Int.reduceDiv, Int.cast_ofNat_Int, Int.reduceBEq, i64w, decide_true, decide_false, Int.le_refl, Nat.min_def, reduceIte, Int.one_mul, bits64, Int.natCast_add, c3, Bool.false_eq_true, g, or1, or2, or3, or4]
    simp only [c3, Int.reduceEq, if_false, if_true, true_or, or_true] at fin
    match r with
    | [] =>
      simp only [List.length_nil, List.length_cons, Nat.zero_add, Nat.reduceAdd] at hz
      simp only [← hz, holds_eq, List.getElem?_cons_zero, List.getElem?_cons_succ, Option.some.injEq, AV.i.injEq, AV.s.injEq, AV.bo.injEq, true_and, and_true, List.cons.injEq, List.length_cons, List.length_nil, and_assoc, exists_and_left, exists_eq_left', exists_eq_left, br_true, br_false, Nat.zero_add, Nat.add_zero, Nat.reduceAdd, Nat.reduceLeDiff, Nat.le_refl, numsOf_one, beq_self_eq_true, Int.reduceLE, Int.reduceLT, Int.reduceAdd, Int.reduceSub, Int.reduceMul, Int.reduceNeg, Int.reduceToNat, Int.reducePow, Int.reduceMod, Int.reduceDiv, Int.cast_ofNat_Int, Int.reduceBEq, i64w, decide_true, decide_false, Int.le_refl, Nat.min_def, reduceIte, Int.one_mul, bits64, Int.natCast_add, ↓reduceIte, decide_true, decide_false, Bool.false_eq_true, Int.reduceLE, Int.reduceLT, ge_iff_le]
      exact fin _ _ _ _ _ _ (by simp [← hz])
    | [x1] =>
      simp only [List.length_nil, List.length_cons, Nat.zero_add, Nat.reduceAdd] at hz
      simp only [← hz, holds_eq, List.getElem?_cons_zero, List.getElem?_cons_succ, Option.some.injEq, AV.i.injEq, AV.s.injEq, AV.bo.injEq, true_and, and_true, List.cons.injEq, List.length_cons, List.length_nil, and_assoc, exists_and_left, exists_eq_left', exists_eq_left, br_true, br_false, Nat.zero_add, Nat.add_zero, Nat.reduceAdd, Nat.reduceLeDiff, Nat.le_refl, numsOf_one, beq_self_eq_true, Int.reduceLE, Int.reduceLT, Int.reduceAdd, Int.reduceSub, Int.reduceMul, Int.reduceNeg, Int.reduceToNat, Int.reducePow, Int.reduceMod, Int.reduceDiv, Int.cast_ofNat_Int, Int.reduceBEq, i64w, decide_true, decide_false, Int.le_refl, Nat.min_def, reduceIte, Int.one_mul, bits64, Int.natCast_add, ↓reduceIte, decide_true, decide_false, Bool.false_eq_true, Int.reduceLE, Int.reduceLT, ge_iff_le]
      exact fin _ _ _ _ _ _ (by simp [← hz])
    | [x1, x2] =>
      simp only [List.length_nil, List.length_cons, Nat.zero_add, Nat.reduceAdd] at hz
      simp only [← hz, holds_eq, List.getElem?_cons_zero, List.getElem?_cons_succ, Option.some.injEq, AV.i.injEq, AV.s.injEq, AV.bo.injEq, true_and, and_true, List.cons.injEq, List.length_cons, List.length_nil, and_assoc, exists_and_left, exists_eq_left', exists_eq_left, br_true, br_false, Nat.zero_add, Nat.add_zero, Nat.reduceAdd, Nat.reduceLeDiff, Nat.le_refl, numsOf_one, beq_self_eq_true, Int.reduceLE, Int.reduceLT, Int.reduceAdd, Int.reduceSub, Int.reduceMul, Int.reduceNeg, Int.reduceToNat, Int.reducePow, Int.reduceMod, Int.reduceDiv, Int.cast_ofNat_Int, Int.reduceBEq, i64w, decide_true, decide_false, Int.le_refl, Nat.min_def, reduceIte, Int.one_mul, bits64, Int.natCast_add, ↓reduceIte, decide_true, decide_false, Bool.false_eq_true, Int.reduceLE, Int.reduceLT, ge_iff_le]
      exact fin _ _ _ _ _ _ (by simp [← hz])
    | [x1, x2, x3] =>
      simp only [List.length_nil, List.length_cons, Nat.zero_add, Nat.reduceAdd] at hz
      simp only [← hz, holds_eq, List.getElem?_cons_zero, List.getElem?_cons_succ, Option.some.injEq, AV.i.injEq, AV.s.injEq, AV.bo.injEq, true_and, and_true, List.cons.injEq, List.length_cons, List.length_nil, and_assoc, exists_and_left, exists_eq_left', exists_eq_left, br_true, br_false, Nat.zero_add, Nat.add_zero, Nat.reduceAdd, Nat.reduceLeDiff, Nat.le_refl, numsOf_one, beq_self_eq_true, Int.reduceLE, Int.reduceLT, Int.reduceAdd, Int.reduceSub, Int.reduceMul, Int.reduceNeg, Int.reduceToNat, Int.reducePow, Int.reduceMod, Int.reduceDiv, Int.cast_ofNat_Int, Int.reduceBEq, i64w, decide_true, decide_false, Int.le_refl, Nat.min_def, reduceIte, Int.one_mul, bits64, Int.natCast_add, ↓reduceIte, decide_true, decide_false, Bool.false_eq_true, Int.reduceLE, Int.reduceLT, ge_iff_le]
      exact fin _ _ _ _ _ _ (by simp [← hz])
    | x1 :: x2 :: x3 :: x4 :: r =>
      have z : (s.size : Int) = r.length + 5 := by simp at hz; omega
      have z1 : ¬ (1 ≥ (s.size : Int)) := by omega
      have z2 : ¬ (2 ≥ (s.size : Int)) := by omega
      have z3 : ¬ (3 ≥ (s.size : Int)) := by omega
      have z4 : ¬ (4 ≥ (s.size : Int)) := by omega
      simp only [holds_eq, List.getElem?_cons_zero, List.getElem?_cons_succ, Option.some.injEq, AV.i.injEq, AV.s.injEq, AV.bo.injEq, true_and, and_true, List.cons.injEq, List.length_cons, List.length_nil, and_assoc, exists_and_left, exists_eq_left', exists_eq_left, br_true, br_false, Nat.zero_add, Nat.add_zero, Nat.reduceAdd, Nat.reduceLeDiff, Nat.le_refl, numsOf_one, beq_self_eq_true, Int.reduceLE, Int.reduceLT, Int.reduceAdd, Int.reduceSub, Int.reduceMul, Int.reduceNeg, Int.reduceToNat, Int.reducePow, Int.reduceMod, Int.reduceDiv, Int.cast_ofNat_Int, Int.reduceBEq, i64w, decide_true, decide_false, Int.le_refl, Nat.min_def, reduceIte, Int.one_mul, bits64, Int.natCast_add, ↓reduceIte, z1, z2, z3, z4, Bool.false_eq_true]
      exact fin _ _ _ _ _ _ (by simp)
  simp only [↓br_ite, ↓reduceIte, holds_eq, List.getElem?_cons_zero, List.getElem?_cons_succ, Option.some.injEq, AV.i.injEq, AV.s.injEq, AV.bo.injEq, true_and, and_true, List.cons.injEq, List.length_cons, List.length_nil, and_assoc, exists_and_left, exists_eq_left', exists_eq_left, br_true, br_false, Nat.zero_add, Nat.add_zero, Nat.reduceAdd, Nat.reduceLeDiff, Nat.le_refl, numsOf_one, beq_self_eq_true, Int.reduceLE, Int.reduceLT, Int.reduceAdd, Int.reduceSub, Int.reduceMul, Int.reduceNeg, Int.reduceToNat, Int.reducePow, Int.reduceMod, Int.reduceDiv, Int.cast_ofNat_Int, Int.reduceBEq, i64w, decide_true, decide_false, Int.le_refl, Nat.min_def, reduceIte, Int.one_mul, bits64, Int.natCast_add, beq_iff_eq, c1, c2, c3, c4, Bool.false_eq_true]
  exact fin _ _ _ _ _ _ (by simp [c1, c2, c3, c4])
end Go.Proofs.Ytnfbgfmdjaodgaa.ScriptRun
