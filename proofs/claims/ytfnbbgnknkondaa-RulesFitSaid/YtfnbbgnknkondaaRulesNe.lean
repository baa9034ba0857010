/- Nets of the first bits of an address. -/
import Derived.Test.YtfnbbgnknkondaaRulesMath
set_option linter.unusedVariables false
set_option linter.unusedSimpArgs false
open Go Go.Proofs.Ytfnbbgnknkondaa.Eng Go.RowKit
namespace Go.Proofs.Ytfnbbgnknkondaa.RulesRun
def tinS (I : ByteArray → Int → ByteArray → Bool) (args : List AV) (h : Hp) (K : AV → Hp → Prop) : Prop := match args with
  | [.ag [.s s, .i .i64 n], .s a] => ∀ b : Bool, Holds (I s n a = b) → K (.bo b) h
  | _ => False
def tfirst (C : ByteArray → Int → ByteArray) (args : List AV) (h : Hp) (K : AV → Hp → Prop) : Prop := match args with
  | [.s s, .i .i64 n] => Holds (0 ≤ n ∧ n ≤ 8 * s.size ∧ (s.size = 4 ∨ s.size = 16)) ∧ K (.s (C s n)) h
  | _ => False
def head22 (s : ByteArray) : Nat → Option Head := fun r => match r with
  | 3 => some (Head.one (Get.and (Get.rowAt 0) (Get.int 6)) fun q => ⟨bads 5 ++ [.sl 0 0 s.size 1 none, .i .i64 q.2] ++ bads 26, [.cells q.1 true]⟩)
  | _ => none
def head5 (s : ByteArray) (a b t : Int) : Nat → Option Head := fun r => match r with
  | 1003 => some (Head.one Get.none fun _ => ⟨[.s s, .i .i64 a, .i .i64 b, .i .i64 t] ++ bads 132, []⟩)
  | _ => none
def W5 : Nat → Option Eng.Road := fun r => match r with
  | 13 => some ⟨some ([], (.pure 1 (.pure 3 (.pure 4 (.old 0 (.old 5 (.pure 6 (.eff 2 (.pure 7 (.pure 8 (.pure 10 (.pure 12 (.pure 13 (.old 9 (.old 14 (.pure 15 (.eff 11 (.pure 16 (.pure 17 (.pure 18 (.eff 19 (.pure 20 (.pure 21 .nil))))))))))))))))))))))), .nil⟩
  | _ => none
noncomputable abbrev T5 (I : ByteArray → Int → ByteArray → Bool) (C : ByteArray → Int → ByteArray) : TEnv := tcons 12 (tinS I) (tcons 10 (tconst (.bo true)) (tcons 22 (tfirst C) tnil))
theorem vc22 (s : ByteArray) (n : Int) (R : AV → Hp → Prop) : (wpFn P tnil noW (head22 s) 0 Go.Proofs.Try.f22 [.s s, .i .i64 n] [] R) = (Wk (0 : Nat) { t := [.bad, .bad, .bad, .bad, .bad, AV.sl (0 : Nat) (0 : Nat) (ByteArray.size s) (1 : Nat) none, AV.i IntKind.i64 n, .bad, .bad, .bad, .bad, .bad, .bad, .bad, .bad, .bad, .bad, .bad, .bad, .bad, .bad, .bad, .bad, .bad, .bad, .bad, .bad, .bad, .bad, .bad, .bad, .bad, .bad], h := [Blk.cells (bytesAV s) true] } { t := [.bad, .bad, .bad, .bad, .bad, AV.sl (0 : Nat) (0 : Nat) (ByteArray.size s) (1 : Nat) none, AV.i IntKind.i64 n, .bad, .bad, .bad, .bad, .bad, .bad, .bad, .bad, .bad, .bad, .bad, .bad, .bad, .bad, .bad, .bad, .bad, .bad, .bad, .bad, .bad, .bad, .bad, .bad, .bad, .bad], h := [Blk.cells (bytesAV s) true] } ∧ ∃ (I : Nat → List AV × Int → Prop), ∃ (n_1 : Nat), I n_1 (bytesAV s, n) ∧ ∀ (a : List AV × Int) (n : Nat), I n a → br (decide (Prod.snd a < IntKind.wrap IntKind.i64 ((8 : Int) * (↑(ByteArray.size s) : Int)))) (Holds ((0 : Int) ≤ IntKind.wrap IntKind.i64 (Int.tdiv (Prod.snd a) (8 : Int)) ∧ IntKind.wrap IntKind.i64 (Int.tdiv (Prod.snd a) (8 : Int)) < (↑(ByteArray.size s) : Int)) ∧ ∃ (n_2 : Int), Holds (a.1[(0 : Nat) + Int.toNat (IntKind.wrap IntKind.i64 (Int.tdiv (Prod.snd a) (8 : Int))) * (1 : Nat)]? = some (AV.i IntKind.u8 n_2)) ∧ Holds ((0 : Int) ≤ IntKind.wrap IntKind.u64 (Int.tmod (Prod.snd a) (8 : Int))) ∧ Holds ((0 : Int) ≤ IntKind.wrap IntKind.i64 (Int.tdiv (Prod.snd a) (8 : Int)) ∧ IntKind.wrap IntKind.i64 (Int.tdiv (Prod.snd a) (8 : Int)) < (↑(ByteArray.size s) : Int)) ∧ Holds ((0 : Nat) + Int.toNat (IntKind.wrap IntKind.i64 (Int.tdiv (Prod.snd a) (8 : Int))) * (1 : Nat) + (1 : Nat) ≤ List.length a.1) ∧ Wk (0 : Nat) { t := [.bad, .bad, .bad, .bad, .bad, AV.sl (0 : Nat) (0 : Nat) (ByteArray.size s) (1 : Nat) none, AV.i IntKind.i64 (IntKind.wrap IntKind.i64 (Prod.snd a + (1 : Int))), .bad, .bad, .bad, .bad, .bad, .bad, .bad, .bad, .bad, .bad, .bad, .bad, .bad, .bad, .bad, .bad, .bad, .bad, .bad, .bad, .bad, .bad, .bad, .bad, .bad, .bad], h := [Blk.cells (setAll a.1 ((0 : Nat) + Int.toNat (IntKind.wrap IntKind.i64 (Int.tdiv (Prod.snd a) (8 : Int))) * (1 : Nat)) [AV.i IntKind.u8 (bits BinOp.andNot IntKind.u8 n_2 (Int.fdiv (128 : Int) ((2 : Int) ^ min (Int.toNat (IntKind.wrap IntKind.u64 (Int.tmod (Prod.snd a) (8 : Int)))) (IntKind.bits IntKind.u8))))]) true] } { t := [.bad, .bad, .bad, .bad, .bad, AV.sl (0 : Nat) (0 : Nat) (ByteArray.size s) (1 : Nat) none, AV.i IntKind.i64 (IntKind.wrap IntKind.i64 (Prod.snd a + (1 : Int))), .bad, .bad, .bad, .bad, .bad, .bad, .bad, .bad, .bad, .bad, .bad, .bad, .bad, .bad, .bad, .bad, .bad, .bad, .bad, .bad, .bad, .bad, .bad, .bad, .bad, .bad], h := [Blk.cells (setAll a.1 ((0 : Nat) + Int.toNat (IntKind.wrap IntKind.i64 (Int.tdiv (Prod.snd a) (8 : Int))) * (1 : Nat)) [AV.i IntKind.u8 (bits BinOp.andNot IntKind.u8 n_2 (Int.fdiv (128 : Int) ((2 : Int) ^ min (Int.toNat (IntKind.wrap IntKind.u64 (Int.tmod (Prod.snd a) (8 : Int)))) (IntKind.bits IntKind.u8))))]) true] } ∧ ∃ (m : Nat), Holds (m < n) ∧ I m (setAll a.1 ((0 : Nat) + Int.toNat (IntKind.wrap IntKind.i64 (Int.tdiv (Prod.snd a) (8 : Int))) * (1 : Nat)) [AV.i IntKind.u8 (bits BinOp.andNot IntKind.u8 n_2 (Int.fdiv (128 : Int) ((2 : Int) ^ min (Int.toNat (IntKind.wrap IntKind.u64 (Int.tmod (Prod.snd a) (8 : Int)))) (IntKind.bits IntKind.u8))))], IntKind.wrap IntKind.i64 (Prod.snd a + (1 : Int)))) (Holds ((0 : Nat) + ByteArray.size s ≤ List.length a.1) ∧ ∃ (l : List Int), Holds (numsOf (List.take (ByteArray.size s) a.1) = some l) ∧ R (AV.s (textOf l)) [Blk.cells (Prod.fst a) true])) := by kernel_rfl
theorem vc5 (I : ByteArray → Int → ByteArray → Bool) (C : ByteArray → Int → ByteArray) (s : ByteArray) (a b t : Int) (R : AV → Hp → Prop) : (wpFn P (T5 I C) W5 (head5 s a b t) 0 Go.Proofs.Try.f5 [.s s, .i .i64 a, .i .i64 b, .i .i64 t] [] R) = (∃ (J : Bool → Prop), br ((↑(ByteArray.size s) : Int) != (4 : Int)) (br ((↑(ByteArray.size s) : Int) != (16 : Int)) (∀ (b : Bool), Holds (I (⟨#[]⟩ : ByteArray) (0 : Int) s = b) → br (!b) (R (AV.bo true) []) (R (AV.bo false) [])) (Wk (0 : Nat) { t := [AV.s s, AV.i IntKind.i64 a, AV.i IntKind.i64 b, AV.i IntKind.i64 t, .bad, .bad, .bad, .bad, .bad, .bad, .bad, .bad, .bad, .bad, .bad, .bad, .bad, .bad, .bad, .bad, .bad, .bad, .bad, .bad, .bad, .bad, .bad, .bad, .bad, .bad, .bad, .bad, .bad, .bad, .bad, .bad, .bad, .bad, .bad, .bad, .bad, .bad, .bad, .bad, .bad, .bad, .bad, .bad, .bad, .bad, .bad, .bad, .bad, .bad, .bad, .bad, .bad, .bad, .bad, .bad, .bad, .bad, .bad, .bad, .bad, .bad, .bad, .bad, .bad, .bad, .bad, .bad, .bad, .bad, .bad, .bad, .bad, .bad, .bad, .bad, .bad, .bad, .bad, .bad, .bad, .bad, .bad, .bad, .bad, .bad, .bad, .bad, .bad, .bad, .bad, .bad, .bad, .bad, .bad, .bad, .bad, .bad, .bad, .bad, .bad, .bad, .bad, .bad, .bad, .bad, .bad, .bad, .bad, .bad, .bad, .bad, .bad, .bad, .bad, .bad, .bad, .bad, .bad, .bad, .bad, .bad, .bad, .bad, .bad, .bad, .bad, .bad, .bad, .bad, .bad, .bad], h := [] } { t := [AV.s s, AV.i IntKind.i64 a, AV.i IntKind.i64 b, AV.i IntKind.i64 t, .bad, .bad, .bad, .bad, .bad, .bad, .bad, .bad, .bad, .bad, .bad, .bad, .bad, .bad, .bad, .bad, .bad, .bad, .bad, .bad, .bad, .bad, .bad, .bad, .bad, .bad, .bad, .bad, .bad, .bad, .bad, .bad, .bad, .bad, .bad, .bad, .bad, .bad, .bad, .bad, .bad, .bad, .bad, .bad, .bad, .bad, .bad, .bad, .bad, .bad, .bad, .bad, .bad, .bad, .bad, .bad, .bad, .bad, .bad, .bad, .bad, .bad, .bad, .bad, .bad, .bad, .bad, .bad, .bad, .bad, .bad, .bad, .bad, .bad, .bad, .bad, .bad, .bad, .bad, .bad, .bad, .bad, .bad, .bad, .bad, .bad, .bad, .bad, .bad, .bad, .bad, .bad, .bad, .bad, .bad, .bad, .bad, .bad, .bad, .bad, .bad, .bad, .bad, .bad, .bad, .bad, .bad, .bad, .bad, .bad, .bad, .bad, .bad, .bad, .bad, .bad, .bad, .bad, .bad, .bad, .bad, .bad, .bad, .bad, .bad, .bad, .bad, .bad, .bad, .bad, .bad, .bad], h := [] } ∧ J true)) (Wk (0 : Nat) { t := [AV.s s, AV.i IntKind.i64 a, AV.i IntKind.i64 b, AV.i IntKind.i64 t, .bad, .bad, .bad, .bad, .bad, .bad, .bad, .bad, .bad, .bad, .bad, .bad, .bad, .bad, .bad, .bad, .bad, .bad, .bad, .bad, .bad, .bad, .bad, .bad, .bad, .bad, .bad, .bad, .bad, .bad, .bad, .bad, .bad, .bad, .bad, .bad, .bad, .bad, .bad, .bad, .bad, .bad, .bad, .bad, .bad, .bad, .bad, .bad, .bad, .bad, .bad, .bad, .bad, .bad, .bad, .bad, .bad, .bad, .bad, .bad, .bad, .bad, .bad, .bad, .bad, .bad, .bad, .bad, .bad, .bad, .bad, .bad, .bad, .bad, .bad, .bad, .bad, .bad, .bad, .bad, .bad, .bad, .bad, .bad, .bad, .bad, .bad, .bad, .bad, .bad, .bad, .bad, .bad, .bad, .bad, .bad, .bad, .bad, .bad, .bad, .bad, .bad, .bad, .bad, .bad, .bad, .bad, .bad, .bad, .bad, .bad, .bad, .bad, .bad, .bad, .bad, .bad, .bad, .bad, .bad, .bad, .bad, .bad, .bad, .bad, .bad, .bad, .bad, .bad, .bad, .bad, .bad], h := [] } { t := [AV.s s, AV.i IntKind.i64 a, AV.i IntKind.i64 b, AV.i IntKind.i64 t, .bad, .bad, .bad, .bad, .bad, .bad, .bad, .bad, .bad, .bad, .bad, .bad, .bad, .bad, .bad, .bad, .bad, .bad, .bad, .bad, .bad, .bad, .bad, .bad, .bad, .bad, .bad, .bad, .bad, .bad, .bad, .bad, .bad, .bad, .bad, .bad, .bad, .bad, .bad, .bad, .bad, .bad, .bad, .bad, .bad, .bad, .bad, .bad, .bad, .bad, .bad, .bad, .bad, .bad, .bad, .bad, .bad, .bad, .bad, .bad, .bad, .bad, .bad, .bad, .bad, .bad, .bad, .bad, .bad, .bad, .bad, .bad, .bad, .bad, .bad, .bad, .bad, .bad, .bad, .bad, .bad, .bad, .bad, .bad, .bad, .bad, .bad, .bad, .bad, .bad, .bad, .bad, .bad, .bad, .bad, .bad, .bad, .bad, .bad, .bad, .bad, .bad, .bad, .bad, .bad, .bad, .bad, .bad, .bad, .bad, .bad, .bad, .bad, .bad, .bad, .bad, .bad, .bad, .bad, .bad, .bad, .bad, .bad, .bad, .bad, .bad, .bad, .bad, .bad, .bad, .bad, .bad], h := [] } ∧ J true) ∧ ∀ (a_1 : Bool), J a_1 → br (decide (a < (0 : Int))) (R (AV.bo true) []) (br (decide (a > IntKind.wrap IntKind.i64 ((8 : Int) * (↑(ByteArray.size s) : Int)))) (R (AV.bo true) []) (br (decide (b < (0 : Int))) (R (AV.bo true) []) (br (decide (b > IntKind.wrap IntKind.i64 ((8 : Int) * (↑(ByteArray.size s) : Int)))) (R (AV.bo true) []) (br (decide (t < (0 : Int))) (R (AV.bo true) []) (br (decide (t ≥ IntKind.wrap IntKind.i64 ((8 : Int) * (↑(ByteArray.size s) : Int)))) (R (AV.bo true) []) (Holds (((0 : Int) ≤ if b < a then b else a) ∧ (if b < a then b else a) ≤ (8 : Int) * (↑(ByteArray.size s) : Int) ∧ (ByteArray.size s = (4 : Nat) ∨ ByteArray.size s = (16 : Nat))) ∧ Holds ((2 : Nat) ≤ List.length [AV.s (⟨#[]⟩ : ByteArray), AV.i IntKind.i64 (0 : Int)]) ∧ Holds (((0 : Int) ≤ if b > a then b else a) ∧ (if b > a then b else a) ≤ (8 : Int) * (↑(ByteArray.size s) : Int) ∧ (ByteArray.size s = (4 : Nat) ∨ ByteArray.size s = (16 : Nat))) ∧ Holds ((2 : Nat) ≤ List.length [AV.s (⟨#[]⟩ : ByteArray), AV.i IntKind.i64 (0 : Int)]) ∧ Holds ((0 : Int) ≤ IntKind.wrap IntKind.i64 (Int.tdiv t (8 : Int)) ∧ IntKind.wrap IntKind.i64 (Int.tdiv t (8 : Int)) < (↑(ByteArray.size s) : Int)) ∧ ∃ (n : Int), Holds ((bytesAV s)[(0 : Nat) + Int.toNat (IntKind.wrap IntKind.i64 (Int.tdiv t (8 : Int))) * (1 : Nat)]? = some (AV.i IntKind.u8 n)) ∧ Holds ((0 : Int) ≤ IntKind.wrap IntKind.u64 (Int.tmod t (8 : Int))) ∧ Holds ((0 : Int) ≤ IntKind.wrap IntKind.i64 (Int.tdiv t (8 : Int)) ∧ IntKind.wrap IntKind.i64 (Int.tdiv t (8 : Int)) < (↑(ByteArray.size s) : Int)) ∧ Holds ((0 : Nat) + Int.toNat (IntKind.wrap IntKind.i64 (Int.tdiv t (8 : Int))) * (1 : Nat) + (1 : Nat) ≤ List.length (bytesAV s)) ∧ Holds ((0 : Nat) + ByteArray.size s ≤ List.length (setAll (bytesAV s) ((0 : Nat) + Int.toNat (IntKind.wrap IntKind.i64 (Int.tdiv t (8 : Int))) * (1 : Nat)) [AV.i IntKind.u8 (bits BinOp.xor IntKind.u8 n (Int.fdiv (128 : Int) ((2 : Int) ^ min (Int.toNat (IntKind.wrap IntKind.u64 (Int.tmod t (8 : Int)))) (IntKind.bits IntKind.u8))))])) ∧ ∃ (l : List Int), Holds (numsOf (List.take (ByteArray.size s) (List.drop (0 : Nat) (setAll (bytesAV s) ((0 : Nat) + Int.toNat (IntKind.wrap IntKind.i64 (Int.tdiv t (8 : Int))) * (1 : Nat)) [AV.i IntKind.u8 (bits BinOp.xor IntKind.u8 n (Int.fdiv (128 : Int) ((2 : Int) ^ min (Int.toNat (IntKind.wrap IntKind.u64 (Int.tmod t (8 : Int)))) (IntKind.bits IntKind.u8))))]))) = some l) ∧ ∃ (s_1 : ByteArray), ∃ (n_1 : Int), Holds ([AV.s (C s (if b < a then b else a)), AV.i IntKind.i64 (if b < a then b else a)] = [AV.s s_1, AV.i IntKind.i64 n_1]) ∧ ∀ (b_1 : Bool), Holds (I s_1 n_1 s = b_1) → br (!b_1) (R (AV.bo false) [Blk.cells [AV.s (C s (if b < a then b else a)), AV.i IntKind.i64 (if b < a then b else a)] true, Blk.cells [AV.s (C s (if b > a then b else a)), AV.i IntKind.i64 (if b > a then b else a)] true, Blk.cells (setAll (bytesAV s) ((0 : Nat) + Int.toNat (IntKind.wrap IntKind.i64 (Int.tdiv t (8 : Int))) * (1 : Nat)) [AV.i IntKind.u8 (bits BinOp.xor IntKind.u8 n (Int.fdiv (128 : Int) ((2 : Int) ^ min (Int.toNat (IntKind.wrap IntKind.u64 (Int.tmod t (8 : Int)))) (IntKind.bits IntKind.u8))))]) true]) (∃ (s_2 : ByteArray), ∃ (n_2 : Int), Holds ([AV.s (C s (if b > a then b else a)), AV.i IntKind.i64 (if b > a then b else a)] = [AV.s s_2, AV.i IntKind.i64 n_2]) ∧ ∀ (b_2 : Bool), Holds (I s_2 n_2 s = b_2) → br (!b_2) (R (AV.bo false) [Blk.cells [AV.s (C s (if b < a then b else a)), AV.i IntKind.i64 (if b < a then b else a)] true, Blk.cells [AV.s (C s (if b > a then b else a)), AV.i IntKind.i64 (if b > a then b else a)] true, Blk.cells (setAll (bytesAV s) ((0 : Nat) + Int.toNat (IntKind.wrap IntKind.i64 (Int.tdiv t (8 : Int))) * (1 : Nat)) [AV.i IntKind.u8 (bits BinOp.xor IntKind.u8 n (Int.fdiv (128 : Int) ((2 : Int) ^ min (Int.toNat (IntKind.wrap IntKind.u64 (Int.tmod t (8 : Int)))) (IntKind.bits IntKind.u8))))]) true]) (∃ (s_3 : ByteArray), ∃ (n_3 : Int), Holds ([AV.s (C s (if b > a then b else a)), AV.i IntKind.i64 (if b > a then b else a)] = [AV.s s_3, AV.i IntKind.i64 n_3]) ∧ ∀ (b_3 : Bool), Holds (I s_3 n_3 (textOf l) = b_3) → br b_3 (∃ (s_4 : ByteArray), ∃ (n_4 : Int), Holds ([AV.s (C s (if b < a then b else a)), AV.i IntKind.i64 (if b < a then b else a)] = [AV.s s_4, AV.i IntKind.i64 n_4]) ∧ ∀ (b_4 : Bool), Holds (I s_4 n_4 (textOf l) = b_4) → br (!b_4) (R (AV.bo false) [Blk.cells [AV.s (C s (if b < a then b else a)), AV.i IntKind.i64 (if b < a then b else a)] true, Blk.cells [AV.s (C s (if b > a then b else a)), AV.i IntKind.i64 (if b > a then b else a)] true, Blk.cells (setAll (bytesAV s) ((0 : Nat) + Int.toNat (IntKind.wrap IntKind.i64 (Int.tdiv t (8 : Int))) * (1 : Nat)) [AV.i IntKind.u8 (bits BinOp.xor IntKind.u8 n (Int.fdiv (128 : Int) ((2 : Int) ^ min (Int.toNat (IntKind.wrap IntKind.u64 (Int.tmod t (8 : Int)))) (IntKind.bits IntKind.u8))))]) true]) (∃ (s_5 : ByteArray), ∃ (n_5 : Int), Holds ([AV.s (C s (if b < a then b else a)), AV.i IntKind.i64 (if b < a then b else a)] = [AV.s s_5, AV.i IntKind.i64 n_5]) ∧ ∃ (n_6 : Int), Holds ([AV.s (C s (if b < a then b else a)), AV.i IntKind.i64 (if b < a then b else a)][(1 : Nat)]? = some (AV.i IntKind.i64 n_6)) ∧ ∀ (b_5 : Bool), Holds (I s_5 n_5 (textOf l) = b_5) → br (b_5 == decide (t ≥ n_6)) (∃ (s_6 : ByteArray), ∃ (n_7 : Int), Holds ([AV.s (C s (if b > a then b else a)), AV.i IntKind.i64 (if b > a then b else a)] = [AV.s s_6, AV.i IntKind.i64 n_7]) ∧ ∃ (n_8 : Int), Holds ([AV.s (C s (if b > a then b else a)), AV.i IntKind.i64 (if b > a then b else a)][(1 : Nat)]? = some (AV.i IntKind.i64 n_8)) ∧ ∀ (b_6 : Bool), Holds (I s_6 n_7 (textOf l) = b_6) → br (b_6 == decide (t ≥ n_8)) (R (AV.bo true) [Blk.cells [AV.s (C s (if b < a then b else a)), AV.i IntKind.i64 (if b < a then b else a)] true, Blk.cells [AV.s (C s (if b > a then b else a)), AV.i IntKind.i64 (if b > a then b else a)] true, Blk.cells (setAll (bytesAV s) ((0 : Nat) + Int.toNat (IntKind.wrap IntKind.i64 (Int.tdiv t (8 : Int))) * (1 : Nat)) [AV.i IntKind.u8 (bits BinOp.xor IntKind.u8 n (Int.fdiv (128 : Int) ((2 : Int) ^ min (Int.toNat (IntKind.wrap IntKind.u64 (Int.tmod t (8 : Int)))) (IntKind.bits IntKind.u8))))]) true]) (R (AV.bo false) [Blk.cells [AV.s (C s (if b < a then b else a)), AV.i IntKind.i64 (if b < a then b else a)] true, Blk.cells [AV.s (C s (if b > a then b else a)), AV.i IntKind.i64 (if b > a then b else a)] true, Blk.cells (setAll (bytesAV s) ((0 : Nat) + Int.toNat (IntKind.wrap IntKind.i64 (Int.tdiv t (8 : Int))) * (1 : Nat)) [AV.i IntKind.u8 (bits BinOp.xor IntKind.u8 n (Int.fdiv (128 : Int) ((2 : Int) ^ min (Int.toNat (IntKind.wrap IntKind.u64 (Int.tmod t (8 : Int)))) (IntKind.bits IntKind.u8))))]) true])) (R (AV.bo false) [Blk.cells [AV.s (C s (if b < a then b else a)), AV.i IntKind.i64 (if b < a then b else a)] true, Blk.cells [AV.s (C s (if b > a then b else a)), AV.i IntKind.i64 (if b > a then b else a)] true, Blk.cells (setAll (bytesAV s) ((0 : Nat) + Int.toNat (IntKind.wrap IntKind.i64 (Int.tdiv t (8 : Int))) * (1 : Nat)) [AV.i IntKind.u8 (bits BinOp.xor IntKind.u8 n (Int.fdiv (128 : Int) ((2 : Int) ^ min (Int.toNat (IntKind.wrap IntKind.u64 (Int.tmod t (8 : Int)))) (IntKind.bits IntKind.u8))))]) true]))) (∃ (s_4 : ByteArray), ∃ (n_4 : Int), Holds ([AV.s (C s (if b < a then b else a)), AV.i IntKind.i64 (if b < a then b else a)] = [AV.s s_4, AV.i IntKind.i64 n_4]) ∧ ∃ (n_5 : Int), Holds ([AV.s (C s (if b < a then b else a)), AV.i IntKind.i64 (if b < a then b else a)][(1 : Nat)]? = some (AV.i IntKind.i64 n_5)) ∧ ∀ (b_4 : Bool), Holds (I s_4 n_4 (textOf l) = b_4) → br (b_4 == decide (t ≥ n_5)) (∃ (s_5 : ByteArray), ∃ (n_6 : Int), Holds ([AV.s (C s (if b > a then b else a)), AV.i IntKind.i64 (if b > a then b else a)] = [AV.s s_5, AV.i IntKind.i64 n_6]) ∧ ∃ (n_7 : Int), Holds ([AV.s (C s (if b > a then b else a)), AV.i IntKind.i64 (if b > a then b else a)][(1 : Nat)]? = some (AV.i IntKind.i64 n_7)) ∧ ∀ (b_5 : Bool), Holds (I s_5 n_6 (textOf l) = b_5) → br (b_5 == decide (t ≥ n_7)) (R (AV.bo true) [Blk.cells [AV.s (C s (if b < a then b else a)), AV.i IntKind.i64 (if b < a then b else a)] true, Blk.cells [AV.s (C s (if b > a then b else a)), AV.i IntKind.i64 (if b > a then b else a)] true, Blk.cells (setAll (bytesAV s) ((0 : Nat) + Int.toNat (IntKind.wrap IntKind.i64 (Int.tdiv t (8 : Int))) * (1 : Nat)) [AV.i IntKind.u8 (bits BinOp.xor IntKind.u8 n (Int.fdiv (128 : Int) ((2 : Int) ^ min (Int.toNat (IntKind.wrap IntKind.u64 (Int.tmod t (8 : Int)))) (IntKind.bits IntKind.u8))))]) true]) (R (AV.bo false) [Blk.cells [AV.s (C s (if b < a then b else a)), AV.i IntKind.i64 (if b < a then b else a)] true, Blk.cells [AV.s (C s (if b > a then b else a)), AV.i IntKind.i64 (if b > a then b else a)] true, Blk.cells (setAll (bytesAV s) ((0 : Nat) + Int.toNat (IntKind.wrap IntKind.i64 (Int.tdiv t (8 : Int))) * (1 : Nat)) [AV.i IntKind.u8 (bits BinOp.xor IntKind.u8 n (Int.fdiv (128 : Int) ((2 : Int) ^ min (Int.toNat (IntKind.wrap IntKind.u64 (Int.tmod t (8 : Int)))) (IntKind.bits IntKind.u8))))]) true])) (R (AV.bo false) [Blk.cells [AV.s (C s (if b < a then b else a)), AV.i IntKind.i64 (if b < a then b else a)] true, Blk.cells [AV.s (C s (if b > a then b else a)), AV.i IntKind.i64 (if b > a then b else a)] true, Blk.cells (setAll (bytesAV s) ((0 : Nat) + Int.toNat (IntKind.wrap IntKind.i64 (Int.tdiv t (8 : Int))) * (1 : Nat)) [AV.i IntKind.u8 (bits BinOp.xor IntKind.u8 n (Int.fdiv (128 : Int) ((2 : Int) ^ min (Int.toNat (IntKind.wrap IntKind.u64 (Int.tmod t (8 : Int)))) (IntKind.bits IntKind.u8))))]) true]))))))))))) := by kernel_rfl
theorem numsOf_u8 : ∀ (l : List Int), numsOf (l.map (AV.i .u8)) = some l
  | [] => rfl
  | x :: l => by
    have := numsOf_u8 l
    simp only [List.map_cons, numsOf, this, Option.map_some]
theorem idx8 {i : Nat} (h : i < 128) : IntKind.wrap .i64 (Int.tdiv (i : Int) 8) = ((i / 8 : Nat) : Int) := by
  rw [Int.tdiv_eq_ediv_of_nonneg (Int.natCast_nonneg _), i64w (by omega) (by omega)]; omega
theorem wrap_u64 (x : Int) : IntKind.wrap .u64 x = x % 18446744073709551616 := by simp [IntKind.wrap, IntKind.bits, IntKind.signed]
theorem rem8 {i : Nat} : IntKind.wrap .u64 (Int.tmod (i : Int) 8) = ((i % 8 : Nat) : Int) := by
  rw [Int.tmod_eq_emod_of_nonneg (Int.natCast_nonneg _), wrap_u64]; omega
theorem sh8 {i : Nat} : min (i % 8) (IntKind.bits .u8) = i % 8 := by
  rw [show IntKind.bits .u8 = 8 from rfl]; omega
set_option maxRecDepth 100000 in
theorem run22 {s : ByteArray} {n : Int} (h0 : 0 ≤ n) (h1 : n ≤ 8 * s.size) (hs : s.size = 4 ∨ s.size = 16) : wpFn P tnil noW (head22 s) 0 Go.Proofs.Try.f22 [.s s, .i .i64 n] [] fun v _ => v = .s (cutS s n) := by
  have hl := nums_len s
  have w8 : IntKind.wrap .i64 (8 * (s.size : Int)) = 8 * s.size := i64w (by omega) (by omega)
  rw [vc22, bytesAV_nums, w8]
  refine ⟨Wk.refl _ _, fun m q => ∃ i : Nat, (i : Int) + m = 8 * s.size ∧ n ≤ i ∧ q.2 = (i : Int) ∧ q.1 = (midL (nums s) n i).map (AV.i .u8), (8 * s.size - n).toNat, ⟨n.toNat, by omega, by omega, by simp only; omega, ?_⟩, ?_⟩
  · rw [show ((n.toNat : Nat) : Int) = n by omega, midL_start]
  · rintro ⟨c, i'⟩ m ⟨i, hm, hni, e1, e2⟩
    simp only at e1 e2
    subst e1 e2
    refine br_intro (fun hi => ?_) (fun hi => ?_)
    · simp only [decide_eq_true_eq] at hi
      have hj : i / 8 < (nums s).length := by omega
      simp only [idx8 (show i < 128 by omega), rem8, Int.toNat_natCast, sh8, mask_eq (show i % 8 < 8 by omega)]
      have hki : kk i (i / 8) = i % 8 := by unfold kk; omega
      have hget := midL_get (n := n) (i := i) hj
      rw [hki] at hget
      refine ⟨⟨Int.natCast_nonneg _, by omega⟩, _, ⟨by rw [Nat.zero_add, Nat.mul_one, List.getElem?_map, hget]; rfl⟩, ⟨Int.natCast_nonneg _⟩, ⟨Int.natCast_nonneg _, by omega⟩, ⟨?_⟩, Wk.refl _ _, m - 1, ⟨by omega⟩, i + 1, by omega, by omega, i64w (x := (i : Int) + 1) (by omega) (by omega), ?_⟩
      · rw [List.length_map, midL_len]; omega
      · exact midL_step (nums_ok s) h0 hni (by omega)
    · simp only [decide_eq_false_iff_not] at hi
      have ei := midL_stop (nums s) n i (by omega)
      rw [ei]
      refine ⟨⟨?_⟩, cutL (nums s) n, ⟨?_⟩, rfl⟩
      · rw [List.length_map, cutL_len]; omega
      · rw [List.take_of_length_le (by simp only [List.length_drop, List.length_map, cutL_len]; omega)]
        exact numsOf_u8 _
theorem in_bad {s a : ByteArray} {n : Int} (h4 : a.size ≠ 4) (h16 : a.size ≠ 16) : inB s n a = false := by
  unfold inB
  have e : (a.size == 4 || a.size == 16) = false := by
    rw [Bool.eq_false_iff]
    intro t
    simp only [Bool.or_eq_true, beq_iff_eq] at t
    omega
  rw [e, Bool.false_and, Bool.and_false]
set_option maxRecDepth 100000 in
theorem run5 (s : ByteArray) (a b t : Int) : Holds (wpFn P (T5 inB cutS) W5 (head5 s a b t) 0 Go.Proofs.Try.f5 [.s s, .i .i64 a, .i .i64 b, .i .i64 t] [] fun v _ => v = .bo true) := by
  refine ⟨?_⟩
  rw [vc5]
  refine ⟨fun _ => s.size = 4 ∨ s.size = 16, br_intro (fun h4 => br_intro (fun h16 => ?_) (fun h16 => ⟨Wk.refl _ _, ?_⟩)) (fun h4 => ⟨Wk.refl _ _, ?_⟩), ?_⟩
  · simp only [bne_iff_ne, ne_eq] at h4 h16
    rintro b ⟨hb⟩
    rw [in_bad (by omega) (by omega)] at hb
    subst hb
    rfl
  · simp only [bne_eq_false_iff_eq] at h16
    right; omega
  · simp only [bne_eq_false_iff_eq] at h4
    left; omega
  · rintro _ hs
    have hl := nums_len s
    have w8 : IntKind.wrap .i64 (8 * (s.size : Int)) = 8 * s.size := i64w (by omega) (by omega)
    rw [w8]
    refine br_intro (fun _ => rfl) (fun a0 => br_intro (fun _ => rfl) (fun a1 => br_intro (fun _ => rfl) (fun b0 => br_intro (fun _ => rfl) (fun b1 => br_intro (fun _ => rfl) (fun t0 => br_intro (fun _ => rfl) (fun t1 => ?_))))))
    simp only [decide_eq_false_iff_not] at a0 a1 b0 b1 t0 t1
    have hmn : 0 ≤ (if b < a then b else a) ∧ (if b < a then b else a) ≤ 8 * (s.size : Int) := by split <;> omega
    have hmx : 0 ≤ (if b > a then b else a) ∧ (if b > a then b else a) ≤ 8 * (s.size : Int) := by split <;> omega
    have hle : (if b < a then b else a) ≤ (if b > a then b else a) := by split <;> split <;> omega
    generalize (if b < a then b else a) = mn at *
    generalize (if b > a then b else a) = mx at *
    obtain ⟨k, rfl⟩ : ∃ k : Nat, t = k := ⟨t.toNat, by omega⟩
    have hk : k < 8 * s.size := by omega
    rw [bytesAV_nums, idx8 (show k < 128 by omega), rem8, Int.toNat_natCast, Int.toNat_natCast, sh8]
    have hj : k / 8 < (nums s).length := by omega
    have hg : ((nums s).map (AV.i .u8))[0 + k / 8 * 1]? = some (.i .u8 ((nums s).getD (k / 8) 0)) := by
      rw [Nat.zero_add, Nat.mul_one, List.getElem?_map, List.getD_eq_getElem?_getD, List.getElem?_eq_getElem hj]; rfl
    have hset : setAll ((nums s).map (AV.i .u8)) (0 + k / 8 * 1) [.i .u8 (flipB ((nums s).getD (k / 8) 0) (k % 8))] = (turnL (nums s) k).map (AV.i .u8) := by
      show ((nums s).map (AV.i .u8)).set (0 + k / 8 * 1) _ = _
      rw [Nat.zero_add, Nat.mul_one, turnL, List.map_set]
    have hset' : setAll ((nums s).map (AV.i .u8)) (0 + k / 8 * 1) [.i .u8 (Go.bits .xor .u8 ((nums s).getD (k / 8) 0) (Int.fdiv 128 (2 ^ (k % 8))))] = (turnL (nums s) k).map (AV.i .u8) := hset
    have q1 := in_self hs hmn.1 hmn.2
    have q2 := in_self hs hmx.1 hmx.2
    have q3 := in_turn hs hmn.1 hmn.2 hk
    have q4 := in_turn hs hmx.1 hmx.2 hk
    refine ⟨⟨hmn.1, hmn.2, hs⟩, ⟨by decide⟩, ⟨hmx.1, hmx.2, hs⟩, ⟨by decide⟩, ⟨Int.natCast_nonneg _, by omega⟩, _, ⟨hg⟩, ⟨Int.natCast_nonneg _⟩, ⟨Int.natCast_nonneg _, by omega⟩, ⟨by rw [List.length_map]; omega⟩, ?_⟩
    rw [hset']
    have hlt : (turnL (nums s) k).length = s.size := by rw [turnL, List.length_set, hl]
    refine ⟨⟨by rw [List.length_map]; omega⟩, turnL (nums s) k, ⟨?_⟩, _, _, ⟨rfl⟩, ?_⟩
    · rw [List.drop_zero, List.take_of_length_le (by rw [List.length_map]; omega)]
      exact numsOf_u8 _
    rintro b1' ⟨g1⟩
    rw [q1] at g1; subst g1
    refine ⟨_, _, ⟨rfl⟩, ?_⟩
    rintro b2' ⟨g2⟩
    rw [q2] at g2; subst g2
    refine ⟨_, _, ⟨rfl⟩, ?_⟩
    rintro b3' ⟨g3⟩
    rw [q4] at g3; subst g3
    have eqb (x : Bool) : (x == x) = true := beq_self_eq_true x
    refine br_intro (fun h3 => ⟨_, _, ⟨rfl⟩, ?_⟩) (fun h3 => ⟨_, _, ⟨rfl⟩, _, ⟨rfl⟩, ?_⟩)
    · have h3 := of_decide_eq_true h3
      rintro b4' ⟨g4⟩
      rw [q3, decide_eq_true (show (k : Int) ≥ mn by omega)] at g4; subst g4
      refine ⟨_, _, ⟨rfl⟩, _, ⟨rfl⟩, ?_⟩
      rintro b5' ⟨g5⟩
      rw [q3] at g5; subst g5
      rw [eqb, br_true]
      refine ⟨_, _, ⟨rfl⟩, _, ⟨rfl⟩, ?_⟩
      rintro b6' ⟨g6⟩
      rw [q4] at g6; subst g6
      rw [eqb, br_true]
    · rintro b5' ⟨g5⟩
      rw [q3] at g5; subst g5
      rw [eqb, br_true]
      refine ⟨_, _, ⟨rfl⟩, _, ⟨rfl⟩, ?_⟩
      rintro b6' ⟨g6⟩
      rw [q4] at g6; subst g6
      rw [eqb, br_true]
end Go.Proofs.Ytfnbbgnknkondaa.RulesRun
