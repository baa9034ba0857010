/- SumHeads: its conditions, and that they hold. -/
import Derived.Test.YtjekkpnmpcpgaaaSumEnv
set_option linter.unusedVariables false
set_option linter.unusedSimpArgs false
open Go Go.Proofs.Ytjekkpnmpcpgaaa.Eng Go.RowKit Go.Proofs.Ytjekkpnmpcpgaaa.SumMath
namespace Go.Proofs.Ytjekkpnmpcpgaaa.SumRun
def okN (n : Int) : Prop := n = 1 ∨ n = 2 ∨ n = 3 ∨ n = 4
def okBig (x n : Int) : Prop := (n = 1 ∨ n = 2 ∨ n = 4) ∧ 0 ≤ x ∧ x < 256 ^ n.toNat
def pos0 (x : Int) : Prop := 0 ≤ x
/-- Put, low, big: a number and a length. -/
def tnum (ok : Int → Int → Prop) (r : Int → Int → AV) (args : List AV) (h : Hp) (K : AV → Hp → Prop) : Prop := match args with
  | [.i .i64 x, .i .i64 n] => Holds (ok x n) ∧ K (r x n) h
  | _ => False
def W20 : Nat → Option Road := fun r => match r with
  | 1 => some ⟨some ([], (.pure 0 (.pure 2 (.pure 6 (.pure 9 (.old 1 (.old 3 (.pure 4 (.pure 5 (.eff 7 (.pure 8 (.eff 10 (.pure 11 (.pure 12 .nil)))))))))))))), .nil⟩
  | _ => none
def W22 : Nat → Option Road := fun r => match r with
  | 1 => some ⟨some ([], (.pure 0 (.pure 2 (.pure 5 (.pure 9 (.old 1 (.old 3 (.pure 4 (.eff 6 (.pure 7 (.pure 8 (.eff 10 (.pure 11 (.pure 12 .nil)))))))))))))), .nil⟩
  | _ => none
def addr (n : Nat) (xs ys : List Int) (h : Hp := []) : Hp := [.cells (xs.map (.i .u8)) true, .cells (ys.map (.i .u8)) true] ++ h
def headA (p l : Int) (A B : List AV) : Nat → Option Head := fun r => match r with
  | 3 => some (Head.one (Get.and (Get.str 9) (Get.int 10)) fun q => ⟨[.bad, .bad, .i .i64 p, .i .i64 l, .p 0 0, .p 1 0, .bad, .bad, .bad, .s q.1, .i .i64 q.2] ++ bads 32, [.cells A true, .cells B true]⟩)
  | 7 => some (Head.one (Get.and (Get.str 9) (Get.int 11)) fun q => ⟨[.bad, .bad, .i .i64 p, .i .i64 l, .p 0 0, .p 1 0, .bad, .bad, .bad, .s q.1, .bad, .i .i64 q.2] ++ bads 31, [.cells A true, .cells B true]⟩)
  | _ => none
def W10 : Nat → Option Road := fun r => match r with
  | 3 => some ⟨some ([], (.pure 2 (.pure 3 (.pure 7 (.pure 8 (.any 0 (.any 1 (.old 5 (.old 6 (.eff 4 (.eff 9 (.pure 10 (.pure 11 (.pure 14 (.pure 15 (.pure 19 (.pure 20 (.any 12 (.any 13 (.old 17 (.old 18 (.eff 16 (.eff 21 (.pure 22 (.pure 23 (.pure 24 .nil)))))))))))))))))))))))))), .nil⟩
  | _ => none
def ok64 (p : Int) : Prop := -9223372036854775808 ≤ p ∧ p ≤ 9223372036854775807
/-- Pseudo4, Pseudo6: two addresses of so many bytes, two numbers. -/
def taddr (n : Nat) (r : List Int → List Int → Int → Int → ByteArray) (args : List AV) (h : Hp) (K : AV → Hp → Prop) : Prop := match args with
  | [.ag xs, .ag ys, .i .i64 p, .i .i64 l] => ∃ (A B : List Int), Holds (xs = A.map (.i .u8)) ∧ Holds (ys = B.map (.i .u8)) ∧ Holds (A.length = n) ∧ Holds (B.length = n) ∧ Holds (ok64 p) ∧ Holds (ok64 l) ∧ K (.s (r A B p l)) h
  | _ => False
abbrev TH (P4 Q4 P6 Q6 : List Int → List Int → Int → Int → ByteArray) : TEnv := tcons 12 (tconst (.bo true)) (tcons 20 (taddr 4 P4) (tcons 21 (taddr 4 Q4) (tcons 22 (taddr 16 P6) (tcons 23 (taddr 16 Q6) tnil))))
theorem vc32_1 (x : Int) (R : AV → Hp → Prop) : (wpFn P tnil noW noL 0 Go.Proofs.Try.f32 [.i .i64 x, .i .i64 1] [] R) = (Holds ((1 : Nat) ≤ List.length [AV.i IntKind.u8 (IntKind.wrap IntKind.u8 (Int.tmod x (256 : Int)))]) ∧ ∃ (l : List Int), Holds (numsOf [AV.i IntKind.u8 (IntKind.wrap IntKind.u8 (Int.tmod x (256 : Int)))] = some l) ∧ Holds (ByteArray.size (textOf l) + (0 : Nat) ≤ (9223372036854775807 : Nat)) ∧ R (AV.s (textOf l ++ { data := #[] })) [Blk.cells [AV.i IntKind.u8 (IntKind.wrap IntKind.u8 (Int.tmod x (256 : Int)))] true]) := by kernel_rfl
theorem vc32_2 (x : Int) (R : AV → Hp → Prop) : (wpFn P tnil noW noL 0 Go.Proofs.Try.f32 [.i .i64 x, .i .i64 2] [] R) = (Holds ((1 : Nat) ≤ List.length [AV.i IntKind.u8 (IntKind.wrap IntKind.u8 (Int.tmod x (256 : Int)))]) ∧ ∃ (l : List Int), Holds (numsOf [AV.i IntKind.u8 (IntKind.wrap IntKind.u8 (Int.tmod x (256 : Int)))] = some l) ∧ Holds (ByteArray.size (textOf l) + (0 : Nat) ≤ (9223372036854775807 : Nat)) ∧ Holds ((1 : Nat) ≤ List.length [AV.i IntKind.u8 (IntKind.wrap IntKind.u8 (Int.tmod (IntKind.wrap IntKind.i64 (Int.tdiv x (256 : Int))) (256 : Int)))]) ∧ ∃ (l_1 : List Int), Holds (numsOf [AV.i IntKind.u8 (IntKind.wrap IntKind.u8 (Int.tmod (IntKind.wrap IntKind.i64 (Int.tdiv x (256 : Int))) (256 : Int)))] = some l_1) ∧ Holds (ByteArray.size (textOf l_1) + ByteArray.size (textOf l ++ { data := #[] }) ≤ (9223372036854775807 : Nat)) ∧ R (AV.s (textOf l_1 ++ (textOf l ++ { data := #[] }))) [Blk.cells [AV.i IntKind.u8 (IntKind.wrap IntKind.u8 (Int.tmod x (256 : Int)))] true, Blk.cells [AV.i IntKind.u8 (IntKind.wrap IntKind.u8 (Int.tmod (IntKind.wrap IntKind.i64 (Int.tdiv x (256 : Int))) (256 : Int)))] true]) := by kernel_rfl
theorem vc32_3 (x : Int) (R : AV → Hp → Prop) : (wpFn P tnil noW noL 0 Go.Proofs.Try.f32 [.i .i64 x, .i .i64 3] [] R) = (Holds ((1 : Nat) ≤ List.length [AV.i IntKind.u8 (IntKind.wrap IntKind.u8 (Int.tmod x (256 : Int)))]) ∧ ∃ (l : List Int), Holds (numsOf [AV.i IntKind.u8 (IntKind.wrap IntKind.u8 (Int.tmod x (256 : Int)))] = some l) ∧ Holds (ByteArray.size (textOf l) + (0 : Nat) ≤ (9223372036854775807 : Nat)) ∧ Holds ((1 : Nat) ≤ List.length [AV.i IntKind.u8 (IntKind.wrap IntKind.u8 (Int.tmod (IntKind.wrap IntKind.i64 (Int.tdiv x (256 : Int))) (256 : Int)))]) ∧ ∃ (l_1 : List Int), Holds (numsOf [AV.i IntKind.u8 (IntKind.wrap IntKind.u8 (Int.tmod (IntKind.wrap IntKind.i64 (Int.tdiv x (256 : Int))) (256 : Int)))] = some l_1) ∧ Holds (ByteArray.size (textOf l_1) + ByteArray.size (textOf l ++ { data := #[] }) ≤ (9223372036854775807 : Nat)) ∧ Holds ((1 : Nat) ≤ List.length [AV.i IntKind.u8 (IntKind.wrap IntKind.u8 (Int.tmod (IntKind.wrap IntKind.i64 (Int.tdiv (IntKind.wrap IntKind.i64 (Int.tdiv x (256 : Int))) (256 : Int))) (256 : Int)))]) ∧ ∃ (l_2 : List Int), Holds (numsOf [AV.i IntKind.u8 (IntKind.wrap IntKind.u8 (Int.tmod (IntKind.wrap IntKind.i64 (Int.tdiv (IntKind.wrap IntKind.i64 (Int.tdiv x (256 : Int))) (256 : Int))) (256 : Int)))] = some l_2) ∧ Holds (ByteArray.size (textOf l_2) + ByteArray.size (textOf l_1 ++ (textOf l ++ { data := #[] })) ≤ (9223372036854775807 : Nat)) ∧ R (AV.s (textOf l_2 ++ (textOf l_1 ++ (textOf l ++ { data := #[] })))) [Blk.cells [AV.i IntKind.u8 (IntKind.wrap IntKind.u8 (Int.tmod x (256 : Int)))] true, Blk.cells [AV.i IntKind.u8 (IntKind.wrap IntKind.u8 (Int.tmod (IntKind.wrap IntKind.i64 (Int.tdiv x (256 : Int))) (256 : Int)))] true, Blk.cells [AV.i IntKind.u8 (IntKind.wrap IntKind.u8 (Int.tmod (IntKind.wrap IntKind.i64 (Int.tdiv (IntKind.wrap IntKind.i64 (Int.tdiv x (256 : Int))) (256 : Int))) (256 : Int)))] true]) := by kernel_rfl
theorem vc32_4 (x : Int) (R : AV → Hp → Prop) : (wpFn P tnil noW noL 0 Go.Proofs.Try.f32 [.i .i64 x, .i .i64 4] [] R) = (Holds ((1 : Nat) ≤ List.length [AV.i IntKind.u8 (IntKind.wrap IntKind.u8 (Int.tmod x (256 : Int)))]) ∧ ∃ (l : List Int), Holds (numsOf [AV.i IntKind.u8 (IntKind.wrap IntKind.u8 (Int.tmod x (256 : Int)))] = some l) ∧ Holds (ByteArray.size (textOf l) + (0 : Nat) ≤ (9223372036854775807 : Nat)) ∧ Holds ((1 : Nat) ≤ List.length [AV.i IntKind.u8 (IntKind.wrap IntKind.u8 (Int.tmod (IntKind.wrap IntKind.i64 (Int.tdiv x (256 : Int))) (256 : Int)))]) ∧ ∃ (l_1 : List Int), Holds (numsOf [AV.i IntKind.u8 (IntKind.wrap IntKind.u8 (Int.tmod (IntKind.wrap IntKind.i64 (Int.tdiv x (256 : Int))) (256 : Int)))] = some l_1) ∧ Holds (ByteArray.size (textOf l_1) + ByteArray.size (textOf l ++ { data := #[] }) ≤ (9223372036854775807 : Nat)) ∧ Holds ((1 : Nat) ≤ List.length [AV.i IntKind.u8 (IntKind.wrap IntKind.u8 (Int.tmod (IntKind.wrap IntKind.i64 (Int.tdiv (IntKind.wrap IntKind.i64 (Int.tdiv x (256 : Int))) (256 : Int))) (256 : Int)))]) ∧ ∃ (l_2 : List Int), Holds (numsOf [AV.i IntKind.u8 (IntKind.wrap IntKind.u8 (Int.tmod (IntKind.wrap IntKind.i64 (Int.tdiv (IntKind.wrap IntKind.i64 (Int.tdiv x (256 : Int))) (256 : Int))) (256 : Int)))] = some l_2) ∧ Holds (ByteArray.size (textOf l_2) + ByteArray.size (textOf l_1 ++ (textOf l ++ { data := #[] })) ≤ (9223372036854775807 : Nat)) ∧ Holds ((1 : Nat) ≤ List.length [AV.i IntKind.u8 (IntKind.wrap IntKind.u8 (Int.tmod (IntKind.wrap IntKind.i64 (Int.tdiv (IntKind.wrap IntKind.i64 (Int.tdiv (IntKind.wrap IntKind.i64 (Int.tdiv x (256 : Int))) (256 : Int))) (256 : Int))) (256 : Int)))]) ∧ ∃ (l_3 : List Int), Holds (numsOf [AV.i IntKind.u8 (IntKind.wrap IntKind.u8 (Int.tmod (IntKind.wrap IntKind.i64 (Int.tdiv (IntKind.wrap IntKind.i64 (Int.tdiv (IntKind.wrap IntKind.i64 (Int.tdiv x (256 : Int))) (256 : Int))) (256 : Int))) (256 : Int)))] = some l_3) ∧ Holds (ByteArray.size (textOf l_3) + ByteArray.size (textOf l_2 ++ (textOf l_1 ++ (textOf l ++ { data := #[] }))) ≤ (9223372036854775807 : Nat)) ∧ R (AV.s (textOf l_3 ++ (textOf l_2 ++ (textOf l_1 ++ (textOf l ++ { data := #[] }))))) [Blk.cells [AV.i IntKind.u8 (IntKind.wrap IntKind.u8 (Int.tmod x (256 : Int)))] true, Blk.cells [AV.i IntKind.u8 (IntKind.wrap IntKind.u8 (Int.tmod (IntKind.wrap IntKind.i64 (Int.tdiv x (256 : Int))) (256 : Int)))] true, Blk.cells [AV.i IntKind.u8 (IntKind.wrap IntKind.u8 (Int.tmod (IntKind.wrap IntKind.i64 (Int.tdiv (IntKind.wrap IntKind.i64 (Int.tdiv x (256 : Int))) (256 : Int))) (256 : Int)))] true, Blk.cells [AV.i IntKind.u8 (IntKind.wrap IntKind.u8 (Int.tmod (IntKind.wrap IntKind.i64 (Int.tdiv (IntKind.wrap IntKind.i64 (Int.tdiv (IntKind.wrap IntKind.i64 (Int.tdiv x (256 : Int))) (256 : Int))) (256 : Int))) (256 : Int)))] true]) := by kernel_rfl
theorem vc30_1 (Lv : Int → Int → ByteArray) (ok : Int → Int → Prop) (x : Int) (R : AV → Hp → Prop) : (wpFn P (tcons 32 (tnum ok fun x n => .s (Lv x n)) tnil) noW noL 0 Go.Proofs.Try.f30 [.i .i64 x, .i .i64 1] [] R) = (Holds ((256 : Int) ≠ (0 : Int)) ∧ br (decide (Int.tmod x (IntKind.wrap IntKind.i64 ((1 : Int) * (256 : Int))) < (0 : Int))) (Holds (ok (IntKind.wrap IntKind.i64 (Int.tmod x (IntKind.wrap IntKind.i64 ((1 : Int) * (256 : Int))) + IntKind.wrap IntKind.i64 ((1 : Int) * (256 : Int)))) (1 : Int)) ∧ R (AV.s (Lv (IntKind.wrap IntKind.i64 (Int.tmod x (IntKind.wrap IntKind.i64 ((1 : Int) * (256 : Int))) + (256 : Int))) (1 : Int))) []) (Holds (ok (Int.tmod x (IntKind.wrap IntKind.i64 ((1 : Int) * (256 : Int)))) (1 : Int)) ∧ R (AV.s (Lv (Int.tmod x (IntKind.wrap IntKind.i64 ((1 : Int) * (256 : Int)))) (1 : Int))) [])) := by kernel_rfl
theorem vc30_2 (Lv : Int → Int → ByteArray) (ok : Int → Int → Prop) (x : Int) (R : AV → Hp → Prop) : (wpFn P (tcons 32 (tnum ok fun x n => .s (Lv x n)) tnil) noW noL 0 Go.Proofs.Try.f30 [.i .i64 x, .i .i64 2] [] R) = (Holds ((65536 : Int) ≠ (0 : Int)) ∧ br (decide (Int.tmod x (IntKind.wrap IntKind.i64 (IntKind.wrap IntKind.i64 ((1 : Int) * (256 : Int)) * (256 : Int))) < (0 : Int))) (Holds (ok (IntKind.wrap IntKind.i64 (Int.tmod x (IntKind.wrap IntKind.i64 (IntKind.wrap IntKind.i64 ((1 : Int) * (256 : Int)) * (256 : Int))) + IntKind.wrap IntKind.i64 (IntKind.wrap IntKind.i64 ((1 : Int) * (256 : Int)) * (256 : Int)))) (2 : Int)) ∧ R (AV.s (Lv (IntKind.wrap IntKind.i64 (Int.tmod x (IntKind.wrap IntKind.i64 (IntKind.wrap IntKind.i64 ((1 : Int) * (256 : Int)) * (256 : Int))) + (65536 : Int))) (2 : Int))) []) (Holds (ok (Int.tmod x (IntKind.wrap IntKind.i64 (IntKind.wrap IntKind.i64 ((1 : Int) * (256 : Int)) * (256 : Int)))) (2 : Int)) ∧ R (AV.s (Lv (Int.tmod x (IntKind.wrap IntKind.i64 (IntKind.wrap IntKind.i64 ((1 : Int) * (256 : Int)) * (256 : Int)))) (2 : Int))) [])) := by kernel_rfl
theorem vc30_3 (Lv : Int → Int → ByteArray) (ok : Int → Int → Prop) (x : Int) (R : AV → Hp → Prop) : (wpFn P (tcons 32 (tnum ok fun x n => .s (Lv x n)) tnil) noW noL 0 Go.Proofs.Try.f30 [.i .i64 x, .i .i64 3] [] R) = (Holds ((16777216 : Int) ≠ (0 : Int)) ∧ br (decide (Int.tmod x (IntKind.wrap IntKind.i64 (IntKind.wrap IntKind.i64 (IntKind.wrap IntKind.i64 ((1 : Int) * (256 : Int)) * (256 : Int)) * (256 : Int))) < (0 : Int))) (Holds (ok (IntKind.wrap IntKind.i64 (Int.tmod x (IntKind.wrap IntKind.i64 (IntKind.wrap IntKind.i64 (IntKind.wrap IntKind.i64 ((1 : Int) * (256 : Int)) * (256 : Int)) * (256 : Int))) + IntKind.wrap IntKind.i64 (IntKind.wrap IntKind.i64 (IntKind.wrap IntKind.i64 ((1 : Int) * (256 : Int)) * (256 : Int)) * (256 : Int)))) (3 : Int)) ∧ R (AV.s (Lv (IntKind.wrap IntKind.i64 (Int.tmod x (IntKind.wrap IntKind.i64 (IntKind.wrap IntKind.i64 (IntKind.wrap IntKind.i64 ((1 : Int) * (256 : Int)) * (256 : Int)) * (256 : Int))) + (16777216 : Int))) (3 : Int))) []) (Holds (ok (Int.tmod x (IntKind.wrap IntKind.i64 (IntKind.wrap IntKind.i64 (IntKind.wrap IntKind.i64 ((1 : Int) * (256 : Int)) * (256 : Int)) * (256 : Int)))) (3 : Int)) ∧ R (AV.s (Lv (Int.tmod x (IntKind.wrap IntKind.i64 (IntKind.wrap IntKind.i64 (IntKind.wrap IntKind.i64 ((1 : Int) * (256 : Int)) * (256 : Int)) * (256 : Int)))) (3 : Int))) [])) := by kernel_rfl
theorem vc30_4 (Lv : Int → Int → ByteArray) (ok : Int → Int → Prop) (x : Int) (R : AV → Hp → Prop) : (wpFn P (tcons 32 (tnum ok fun x n => .s (Lv x n)) tnil) noW noL 0 Go.Proofs.Try.f30 [.i .i64 x, .i .i64 4] [] R) = (Holds ((4294967296 : Int) ≠ (0 : Int)) ∧ br (decide (Int.tmod x (IntKind.wrap IntKind.i64 (IntKind.wrap IntKind.i64 (IntKind.wrap IntKind.i64 (IntKind.wrap IntKind.i64 ((1 : Int) * (256 : Int)) * (256 : Int)) * (256 : Int)) * (256 : Int))) < (0 : Int))) (Holds (ok (IntKind.wrap IntKind.i64 (Int.tmod x (IntKind.wrap IntKind.i64 (IntKind.wrap IntKind.i64 (IntKind.wrap IntKind.i64 (IntKind.wrap IntKind.i64 ((1 : Int) * (256 : Int)) * (256 : Int)) * (256 : Int)) * (256 : Int))) + IntKind.wrap IntKind.i64 (IntKind.wrap IntKind.i64 (IntKind.wrap IntKind.i64 (IntKind.wrap IntKind.i64 ((1 : Int) * (256 : Int)) * (256 : Int)) * (256 : Int)) * (256 : Int)))) (4 : Int)) ∧ R (AV.s (Lv (IntKind.wrap IntKind.i64 (Int.tmod x (IntKind.wrap IntKind.i64 (IntKind.wrap IntKind.i64 (IntKind.wrap IntKind.i64 (IntKind.wrap IntKind.i64 ((1 : Int) * (256 : Int)) * (256 : Int)) * (256 : Int)) * (256 : Int))) + (4294967296 : Int))) (4 : Int))) []) (Holds (ok (Int.tmod x (IntKind.wrap IntKind.i64 (IntKind.wrap IntKind.i64 (IntKind.wrap IntKind.i64 (IntKind.wrap IntKind.i64 ((1 : Int) * (256 : Int)) * (256 : Int)) * (256 : Int)) * (256 : Int)))) (4 : Int)) ∧ R (AV.s (Lv (Int.tmod x (IntKind.wrap IntKind.i64 (IntKind.wrap IntKind.i64 (IntKind.wrap IntKind.i64 (IntKind.wrap IntKind.i64 ((1 : Int) * (256 : Int)) * (256 : Int)) * (256 : Int)) * (256 : Int)))) (4 : Int))) [])) := by kernel_rfl
theorem vc31_1 (x : Int) (R : AV → Hp → Prop) : (wpFn P tnil noW noL 0 Go.Proofs.Try.f31 [.i .i64 x, .i .i64 1] [] R) = (br (decide (x < (0 : Int))) (R (AV.tu [AV.s { data := #[] }, AV.ic (59 : Nat) (AV.p (0 : Nat) (0 : Nat))]) [Blk.cells [AV.i IntKind.i64 (13 : Int), AV.i IntKind.i64 (0 : Int)] true]) (Holds ((0 : Int) ≤ (8 : Int)) ∧ br (decide (x ≥ IntKind.wrap IntKind.i64 ((1 : Int) * (2 : Int) ^ min (Int.toNat (IntKind.wrap IntKind.i64 ((8 : Int) * (1 : Int)))) (IntKind.bits IntKind.i64)))) (R (AV.tu [AV.s { data := #[] }, AV.ic (59 : Nat) (AV.p (0 : Nat) (0 : Nat))]) [Blk.cells [AV.i IntKind.i64 (13 : Int), AV.i IntKind.i64 (0 : Int)] true]) (Holds ((0 : Int) ≤ (1 : Int) ∧ (1 : Int) ≤ (1 : Int) ∧ (1 : Int) ≤ (549755813888 : Int)) ∧ Holds ((0 : Int) ≤ (0 : Int)) ∧ Holds ((0 : Int) ≤ (0 : Int) ∧ (0 : Int) < (↑(Int.toNat (1 : Int)) : Int)) ∧ Holds ((1 : Nat) ≤ List.length [AV.i IntKind.u8 (0 : Int)]) ∧ Holds ((1 : Nat) ≤ List.length [AV.i IntKind.u8 (IntKind.wrap IntKind.u8 (Int.fdiv x ((2 : Int) ^ min (Int.toNat (IntKind.wrap IntKind.i64 ((8 : Int) * IntKind.wrap IntKind.i64 (IntKind.wrap IntKind.i64 ((1 : Int) - (1 : Int)) - (0 : Int))))) (IntKind.bits IntKind.i64))))]) ∧ ∃ (l : List Int), Holds (numsOf [AV.i IntKind.u8 (IntKind.wrap IntKind.u8 (Int.fdiv x ((2 : Int) ^ min (Int.toNat (IntKind.wrap IntKind.i64 ((8 : Int) * IntKind.wrap IntKind.i64 (IntKind.wrap IntKind.i64 ((1 : Int) - (1 : Int)) - (0 : Int))))) (IntKind.bits IntKind.i64))))] = some l) ∧ R (AV.tu [AV.s (textOf l), AV.ni]) [Blk.cells [AV.i IntKind.u8 (IntKind.wrap IntKind.u8 (Int.fdiv x ((2 : Int) ^ min (Int.toNat (IntKind.wrap IntKind.i64 ((8 : Int) * IntKind.wrap IntKind.i64 (IntKind.wrap IntKind.i64 ((1 : Int) - (1 : Int)) - (0 : Int))))) (IntKind.bits IntKind.i64))))] true]))) := by kernel_rfl
theorem vc31_2 (x : Int) (R : AV → Hp → Prop) : (wpFn P tnil noW noL 0 Go.Proofs.Try.f31 [.i .i64 x, .i .i64 2] [] R) = (br (decide (x < (0 : Int))) (R (AV.tu [AV.s { data := #[] }, AV.ic (59 : Nat) (AV.p (0 : Nat) (0 : Nat))]) [Blk.cells [AV.i IntKind.i64 (13 : Int), AV.i IntKind.i64 (0 : Int)] true]) (Holds ((0 : Int) ≤ (16 : Int)) ∧ br (decide (x ≥ IntKind.wrap IntKind.i64 ((1 : Int) * (2 : Int) ^ min (Int.toNat (IntKind.wrap IntKind.i64 ((8 : Int) * (2 : Int)))) (IntKind.bits IntKind.i64)))) (R (AV.tu [AV.s { data := #[] }, AV.ic (59 : Nat) (AV.p (0 : Nat) (0 : Nat))]) [Blk.cells [AV.i IntKind.i64 (13 : Int), AV.i IntKind.i64 (0 : Int)] true]) (Holds ((0 : Int) ≤ (2 : Int) ∧ (2 : Int) ≤ (2 : Int) ∧ (2 : Int) ≤ (549755813888 : Int)) ∧ Holds ((0 : Int) ≤ (8 : Int)) ∧ Holds ((0 : Int) ≤ (0 : Int) ∧ (0 : Int) < (↑(Int.toNat (2 : Int)) : Int)) ∧ Holds ((1 : Nat) ≤ List.length [AV.i IntKind.u8 (0 : Int), AV.i IntKind.u8 (0 : Int)]) ∧ Holds ((0 : Int) ≤ (0 : Int)) ∧ Holds ((0 : Int) ≤ IntKind.wrap IntKind.i64 ((0 : Int) + (1 : Int)) ∧ IntKind.wrap IntKind.i64 ((0 : Int) + (1 : Int)) < (↑(Int.toNat (2 : Int)) : Int)) ∧ Holds ((2 : Nat) ≤ List.length [AV.i IntKind.u8 (IntKind.wrap IntKind.u8 (Int.fdiv x ((2 : Int) ^ min (Int.toNat (IntKind.wrap IntKind.i64 ((8 : Int) * IntKind.wrap IntKind.i64 (IntKind.wrap IntKind.i64 ((2 : Int) - (1 : Int)) - (0 : Int))))) (IntKind.bits IntKind.i64)))), AV.i IntKind.u8 (0 : Int)]) ∧ Holds ((2 : Nat) ≤ List.length [AV.i IntKind.u8 (IntKind.wrap IntKind.u8 (Int.fdiv x ((2 : Int) ^ min (Int.toNat (IntKind.wrap IntKind.i64 ((8 : Int) * IntKind.wrap IntKind.i64 (IntKind.wrap IntKind.i64 ((2 : Int) - (1 : Int)) - (0 : Int))))) (IntKind.bits IntKind.i64)))), AV.i IntKind.u8 (IntKind.wrap IntKind.u8 (Int.fdiv x ((2 : Int) ^ min (Int.toNat (IntKind.wrap IntKind.i64 ((8 : Int) * IntKind.wrap IntKind.i64 (IntKind.wrap IntKind.i64 ((2 : Int) - (1 : Int)) - IntKind.wrap IntKind.i64 ((0 : Int) + (1 : Int)))))) (IntKind.bits IntKind.i64))))]) ∧ ∃ (l : List Int), Holds (numsOf [AV.i IntKind.u8 (IntKind.wrap IntKind.u8 (Int.fdiv x ((2 : Int) ^ min (Int.toNat (IntKind.wrap IntKind.i64 ((8 : Int) * IntKind.wrap IntKind.i64 (IntKind.wrap IntKind.i64 ((2 : Int) - (1 : Int)) - (0 : Int))))) (IntKind.bits IntKind.i64)))), AV.i IntKind.u8 (IntKind.wrap IntKind.u8 (Int.fdiv x ((2 : Int) ^ min (Int.toNat (IntKind.wrap IntKind.i64 ((8 : Int) * IntKind.wrap IntKind.i64 (IntKind.wrap IntKind.i64 ((2 : Int) - (1 : Int)) - IntKind.wrap IntKind.i64 ((0 : Int) + (1 : Int)))))) (IntKind.bits IntKind.i64))))] = some l) ∧ R (AV.tu [AV.s (textOf l), AV.ni]) [Blk.cells [AV.i IntKind.u8 (IntKind.wrap IntKind.u8 (Int.fdiv x ((2 : Int) ^ min (Int.toNat (IntKind.wrap IntKind.i64 ((8 : Int) * IntKind.wrap IntKind.i64 (IntKind.wrap IntKind.i64 ((2 : Int) - (1 : Int)) - (0 : Int))))) (IntKind.bits IntKind.i64)))), AV.i IntKind.u8 (IntKind.wrap IntKind.u8 (Int.fdiv x ((2 : Int) ^ min (Int.toNat (IntKind.wrap IntKind.i64 ((8 : Int) * IntKind.wrap IntKind.i64 (IntKind.wrap IntKind.i64 ((2 : Int) - (1 : Int)) - IntKind.wrap IntKind.i64 ((0 : Int) + (1 : Int)))))) (IntKind.bits IntKind.i64))))] true]))) := by kernel_rfl
theorem vc31_4 (x : Int) (R : AV → Hp → Prop) : (wpFn P tnil noW noL 0 Go.Proofs.Try.f31 [.i .i64 x, .i .i64 4] [] R) = (br (decide (x < (0 : Int))) (R (AV.tu [AV.s { data := #[] }, AV.ic (59 : Nat) (AV.p (0 : Nat) (0 : Nat))]) [Blk.cells [AV.i IntKind.i64 (13 : Int), AV.i IntKind.i64 (0 : Int)] true]) (Holds ((0 : Int) ≤ (32 : Int)) ∧ br (decide (x ≥ IntKind.wrap IntKind.i64 ((1 : Int) * (2 : Int) ^ min (Int.toNat (IntKind.wrap IntKind.i64 ((8 : Int) * (4 : Int)))) (IntKind.bits IntKind.i64)))) (R (AV.tu [AV.s { data := #[] }, AV.ic (59 : Nat) (AV.p (0 : Nat) (0 : Nat))]) [Blk.cells [AV.i IntKind.i64 (13 : Int), AV.i IntKind.i64 (0 : Int)] true]) (Holds ((0 : Int) ≤ (4 : Int) ∧ (4 : Int) ≤ (4 : Int) ∧ (4 : Int) ≤ (549755813888 : Int)) ∧ Holds ((0 : Int) ≤ (24 : Int)) ∧ Holds ((0 : Int) ≤ (0 : Int) ∧ (0 : Int) < (↑(Int.toNat (4 : Int)) : Int)) ∧ Holds ((1 : Nat) ≤ List.length [AV.i IntKind.u8 (0 : Int), AV.i IntKind.u8 (0 : Int), AV.i IntKind.u8 (0 : Int), AV.i IntKind.u8 (0 : Int)]) ∧ Holds ((0 : Int) ≤ (16 : Int)) ∧ Holds ((0 : Int) ≤ IntKind.wrap IntKind.i64 ((0 : Int) + (1 : Int)) ∧ IntKind.wrap IntKind.i64 ((0 : Int) + (1 : Int)) < (↑(Int.toNat (4 : Int)) : Int)) ∧ Holds ((2 : Nat) ≤ List.length [AV.i IntKind.u8 (IntKind.wrap IntKind.u8 (Int.fdiv x ((2 : Int) ^ min (Int.toNat (IntKind.wrap IntKind.i64 ((8 : Int) * IntKind.wrap IntKind.i64 (IntKind.wrap IntKind.i64 ((4 : Int) - (1 : Int)) - (0 : Int))))) (IntKind.bits IntKind.i64)))), AV.i IntKind.u8 (0 : Int), AV.i IntKind.u8 (0 : Int), AV.i IntKind.u8 (0 : Int)]) ∧ Holds ((0 : Int) ≤ (8 : Int)) ∧ Holds ((0 : Int) ≤ IntKind.wrap IntKind.i64 (IntKind.wrap IntKind.i64 ((0 : Int) + (1 : Int)) + (1 : Int)) ∧ IntKind.wrap IntKind.i64 (IntKind.wrap IntKind.i64 ((0 : Int) + (1 : Int)) + (1 : Int)) < (↑(Int.toNat (4 : Int)) : Int)) ∧ Holds ((3 : Nat) ≤ List.length [AV.i IntKind.u8 (IntKind.wrap IntKind.u8 (Int.fdiv x ((2 : Int) ^ min (Int.toNat (IntKind.wrap IntKind.i64 ((8 : Int) * IntKind.wrap IntKind.i64 (IntKind.wrap IntKind.i64 ((4 : Int) - (1 : Int)) - (0 : Int))))) (IntKind.bits IntKind.i64)))), AV.i IntKind.u8 (IntKind.wrap IntKind.u8 (Int.fdiv x ((2 : Int) ^ min (Int.toNat (IntKind.wrap IntKind.i64 ((8 : Int) * IntKind.wrap IntKind.i64 (IntKind.wrap IntKind.i64 ((4 : Int) - (1 : Int)) - IntKind.wrap IntKind.i64 ((0 : Int) + (1 : Int)))))) (IntKind.bits IntKind.i64)))), AV.i IntKind.u8 (0 : Int), AV.i IntKind.u8 (0 : Int)]) ∧ Holds ((0 : Int) ≤ (0 : Int)) ∧ Holds ((0 : Int) ≤ IntKind.wrap IntKind.i64 (IntKind.wrap IntKind.i64 (IntKind.wrap IntKind.i64 ((0 : Int) + (1 : Int)) + (1 : Int)) + (1 : Int)) ∧ IntKind.wrap IntKind.i64 (IntKind.wrap IntKind.i64 (IntKind.wrap IntKind.i64 ((0 : Int) + (1 : Int)) + (1 : Int)) + (1 : Int)) < (↑(Int.toNat (4 : Int)) : Int)) ∧ Holds ((4 : Nat) ≤ List.length [AV.i IntKind.u8 (IntKind.wrap IntKind.u8 (Int.fdiv x ((2 : Int) ^ min (Int.toNat (IntKind.wrap IntKind.i64 ((8 : Int) * IntKind.wrap IntKind.i64 (IntKind.wrap IntKind.i64 ((4 : Int) - (1 : Int)) - (0 : Int))))) (IntKind.bits IntKind.i64)))), AV.i IntKind.u8 (IntKind.wrap IntKind.u8 (Int.fdiv x ((2 : Int) ^ min (Int.toNat (IntKind.wrap IntKind.i64 ((8 : Int) * IntKind.wrap IntKind.i64 (IntKind.wrap IntKind.i64 ((4 : Int) - (1 : Int)) - IntKind.wrap IntKind.i64 ((0 : Int) + (1 : Int)))))) (IntKind.bits IntKind.i64)))), AV.i IntKind.u8 (IntKind.wrap IntKind.u8 (Int.fdiv x ((2 : Int) ^ min (Int.toNat (IntKind.wrap IntKind.i64 ((8 : Int) * IntKind.wrap IntKind.i64 (IntKind.wrap IntKind.i64 ((4 : Int) - (1 : Int)) - IntKind.wrap IntKind.i64 (IntKind.wrap IntKind.i64 ((0 : Int) + (1 : Int)) + (1 : Int)))))) (IntKind.bits IntKind.i64)))), AV.i IntKind.u8 (0 : Int)]) ∧ Holds ((4 : Nat) ≤ List.length [AV.i IntKind.u8 (IntKind.wrap IntKind.u8 (Int.fdiv x ((2 : Int) ^ min (Int.toNat (IntKind.wrap IntKind.i64 ((8 : Int) * IntKind.wrap IntKind.i64 (IntKind.wrap IntKind.i64 ((4 : Int) - (1 : Int)) - (0 : Int))))) (IntKind.bits IntKind.i64)))), AV.i IntKind.u8 (IntKind.wrap IntKind.u8 (Int.fdiv x ((2 : Int) ^ min (Int.toNat (IntKind.wrap IntKind.i64 ((8 : Int) * IntKind.wrap IntKind.i64 (IntKind.wrap IntKind.i64 ((4 : Int) - (1 : Int)) - IntKind.wrap IntKind.i64 ((0 : Int) + (1 : Int)))))) (IntKind.bits IntKind.i64)))), AV.i IntKind.u8 (IntKind.wrap IntKind.u8 (Int.fdiv x ((2 : Int) ^ min (Int.toNat (IntKind.wrap IntKind.i64 ((8 : Int) * IntKind.wrap IntKind.i64 (IntKind.wrap IntKind.i64 ((4 : Int) - (1 : Int)) - IntKind.wrap IntKind.i64 (IntKind.wrap IntKind.i64 ((0 : Int) + (1 : Int)) + (1 : Int)))))) (IntKind.bits IntKind.i64)))), AV.i IntKind.u8 (IntKind.wrap IntKind.u8 (Int.fdiv x ((2 : Int) ^ min (Int.toNat (IntKind.wrap IntKind.i64 ((8 : Int) * IntKind.wrap IntKind.i64 (IntKind.wrap IntKind.i64 ((4 : Int) - (1 : Int)) - IntKind.wrap IntKind.i64 (IntKind.wrap IntKind.i64 (IntKind.wrap IntKind.i64 ((0 : Int) + (1 : Int)) + (1 : Int)) + (1 : Int)))))) (IntKind.bits IntKind.i64))))]) ∧ ∃ (l : List Int), Holds (numsOf [AV.i IntKind.u8 (IntKind.wrap IntKind.u8 (Int.fdiv x ((2 : Int) ^ min (Int.toNat (IntKind.wrap IntKind.i64 ((8 : Int) * IntKind.wrap IntKind.i64 (IntKind.wrap IntKind.i64 ((4 : Int) - (1 : Int)) - (0 : Int))))) (IntKind.bits IntKind.i64)))), AV.i IntKind.u8 (IntKind.wrap IntKind.u8 (Int.fdiv x ((2 : Int) ^ min (Int.toNat (IntKind.wrap IntKind.i64 ((8 : Int) * IntKind.wrap IntKind.i64 (IntKind.wrap IntKind.i64 ((4 : Int) - (1 : Int)) - IntKind.wrap IntKind.i64 ((0 : Int) + (1 : Int)))))) (IntKind.bits IntKind.i64)))), AV.i IntKind.u8 (IntKind.wrap IntKind.u8 (Int.fdiv x ((2 : Int) ^ min (Int.toNat (IntKind.wrap IntKind.i64 ((8 : Int) * IntKind.wrap IntKind.i64 (IntKind.wrap IntKind.i64 ((4 : Int) - (1 : Int)) - IntKind.wrap IntKind.i64 (IntKind.wrap IntKind.i64 ((0 : Int) + (1 : Int)) + (1 : Int)))))) (IntKind.bits IntKind.i64)))), AV.i IntKind.u8 (IntKind.wrap IntKind.u8 (Int.fdiv x ((2 : Int) ^ min (Int.toNat (IntKind.wrap IntKind.i64 ((8 : Int) * IntKind.wrap IntKind.i64 (IntKind.wrap IntKind.i64 ((4 : Int) - (1 : Int)) - IntKind.wrap IntKind.i64 (IntKind.wrap IntKind.i64 (IntKind.wrap IntKind.i64 ((0 : Int) + (1 : Int)) + (1 : Int)) + (1 : Int)))))) (IntKind.bits IntKind.i64))))] = some l) ∧ R (AV.tu [AV.s (textOf l), AV.ni]) [Blk.cells [AV.i IntKind.u8 (IntKind.wrap IntKind.u8 (Int.fdiv x ((2 : Int) ^ min (Int.toNat (IntKind.wrap IntKind.i64 ((8 : Int) * IntKind.wrap IntKind.i64 (IntKind.wrap IntKind.i64 ((4 : Int) - (1 : Int)) - (0 : Int))))) (IntKind.bits IntKind.i64)))), AV.i IntKind.u8 (IntKind.wrap IntKind.u8 (Int.fdiv x ((2 : Int) ^ min (Int.toNat (IntKind.wrap IntKind.i64 ((8 : Int) * IntKind.wrap IntKind.i64 (IntKind.wrap IntKind.i64 ((4 : Int) - (1 : Int)) - IntKind.wrap IntKind.i64 ((0 : Int) + (1 : Int)))))) (IntKind.bits IntKind.i64)))), AV.i IntKind.u8 (IntKind.wrap IntKind.u8 (Int.fdiv x ((2 : Int) ^ min (Int.toNat (IntKind.wrap IntKind.i64 ((8 : Int) * IntKind.wrap IntKind.i64 (IntKind.wrap IntKind.i64 ((4 : Int) - (1 : Int)) - IntKind.wrap IntKind.i64 (IntKind.wrap IntKind.i64 ((0 : Int) + (1 : Int)) + (1 : Int)))))) (IntKind.bits IntKind.i64)))), AV.i IntKind.u8 (IntKind.wrap IntKind.u8 (Int.fdiv x ((2 : Int) ^ min (Int.toNat (IntKind.wrap IntKind.i64 ((8 : Int) * IntKind.wrap IntKind.i64 (IntKind.wrap IntKind.i64 ((4 : Int) - (1 : Int)) - IntKind.wrap IntKind.i64 (IntKind.wrap IntKind.i64 (IntKind.wrap IntKind.i64 ((0 : Int) + (1 : Int)) + (1 : Int)) + (1 : Int)))))) (IntKind.bits IntKind.i64))))] true]))) := by kernel_rfl
theorem vc29_1 (Lv : Int → Int → ByteArray) (ok : Int → Int → Prop) (x : Int) (R : AV → Hp → Prop) : (wpFn P (tcons 31 (tnum ok fun x n => .tu [.s (Lv x n), .ni]) tnil) noW noL 0 Go.Proofs.Try.f29 [.i .i64 x, .i .i64 1] [] R) = (Holds ((0 : Int) ≤ (8 : Int)) ∧ Holds (ok (bits BinOp.and IntKind.i64 x (IntKind.wrap IntKind.i64 (IntKind.wrap IntKind.i64 ((1 : Int) * (2 : Int) ^ min (Int.toNat (IntKind.wrap IntKind.i64 ((8 : Int) * (1 : Int)))) (IntKind.bits IntKind.i64)) - (1 : Int)))) (1 : Int)) ∧ R (AV.s (Lv (bits BinOp.and IntKind.i64 x (IntKind.wrap IntKind.i64 (IntKind.wrap IntKind.i64 ((1 : Int) * (2 : Int) ^ min (Int.toNat (IntKind.wrap IntKind.i64 ((8 : Int) * (1 : Int)))) (IntKind.bits IntKind.i64)) - (1 : Int)))) (1 : Int))) []) := by kernel_rfl
theorem vc29_2 (Lv : Int → Int → ByteArray) (ok : Int → Int → Prop) (x : Int) (R : AV → Hp → Prop) : (wpFn P (tcons 31 (tnum ok fun x n => .tu [.s (Lv x n), .ni]) tnil) noW noL 0 Go.Proofs.Try.f29 [.i .i64 x, .i .i64 2] [] R) = (Holds ((0 : Int) ≤ (16 : Int)) ∧ Holds (ok (bits BinOp.and IntKind.i64 x (IntKind.wrap IntKind.i64 (IntKind.wrap IntKind.i64 ((1 : Int) * (2 : Int) ^ min (Int.toNat (IntKind.wrap IntKind.i64 ((8 : Int) * (2 : Int)))) (IntKind.bits IntKind.i64)) - (1 : Int)))) (2 : Int)) ∧ R (AV.s (Lv (bits BinOp.and IntKind.i64 x (IntKind.wrap IntKind.i64 (IntKind.wrap IntKind.i64 ((1 : Int) * (2 : Int) ^ min (Int.toNat (IntKind.wrap IntKind.i64 ((8 : Int) * (2 : Int)))) (IntKind.bits IntKind.i64)) - (1 : Int)))) (2 : Int))) []) := by kernel_rfl
theorem vc29_4 (Lv : Int → Int → ByteArray) (ok : Int → Int → Prop) (x : Int) (R : AV → Hp → Prop) : (wpFn P (tcons 31 (tnum ok fun x n => .tu [.s (Lv x n), .ni]) tnil) noW noL 0 Go.Proofs.Try.f29 [.i .i64 x, .i .i64 4] [] R) = (Holds ((0 : Int) ≤ (32 : Int)) ∧ Holds (ok (bits BinOp.and IntKind.i64 x (IntKind.wrap IntKind.i64 (IntKind.wrap IntKind.i64 ((1 : Int) * (2 : Int) ^ min (Int.toNat (IntKind.wrap IntKind.i64 ((8 : Int) * (4 : Int)))) (IntKind.bits IntKind.i64)) - (1 : Int)))) (4 : Int)) ∧ R (AV.s (Lv (bits BinOp.and IntKind.i64 x (IntKind.wrap IntKind.i64 (IntKind.wrap IntKind.i64 ((1 : Int) * (2 : Int) ^ min (Int.toNat (IntKind.wrap IntKind.i64 ((8 : Int) * (4 : Int)))) (IntKind.bits IntKind.i64)) - (1 : Int)))) (4 : Int))) []) := by kernel_rfl
theorem vc20 (Lv : Int → Int → ByteArray) (ok : Int → Int → Prop) (a0 a1 a2 a3 b0 b1 b2 b3 p l : Int) (R : AV → Hp → Prop) : (wpFn P (tcons 29 (tnum ok fun x n => .s (Lv x n)) tnil) W20 noL 0 Go.Proofs.Try.f20 [.ag [.i .u8 a0, .i .u8 a1, .i .u8 a2, .i .u8 a3], .ag [.i .u8 b0, .i .u8 b1, .i .u8 b2, .i .u8 b3], .i .i64 p, .i .i64 l] [] R) = (Holds ((4 : Nat) ≤ List.length [AV.i IntKind.u8 a0, AV.i IntKind.u8 a1, AV.i IntKind.u8 a2, AV.i IntKind.u8 a3]) ∧ ∃ (l_1 : List Int), Holds (numsOf [AV.i IntKind.u8 a0, AV.i IntKind.u8 a1, AV.i IntKind.u8 a2, AV.i IntKind.u8 a3] = some l_1) ∧ Holds ((4 : Nat) ≤ List.length [AV.i IntKind.u8 b0, AV.i IntKind.u8 b1, AV.i IntKind.u8 b2, AV.i IntKind.u8 b3]) ∧ ∃ (l_2 : List Int), Holds (numsOf [AV.i IntKind.u8 b0, AV.i IntKind.u8 b1, AV.i IntKind.u8 b2, AV.i IntKind.u8 b3] = some l_2) ∧ Holds (ByteArray.size (textOf l_1) + ByteArray.size (textOf l_2) ≤ (9223372036854775807 : Nat)) ∧ Holds (ByteArray.size (textOf l_1 ++ textOf l_2) + (1 : Nat) ≤ (9223372036854775807 : Nat)) ∧ Holds (ok p (1 : Int)) ∧ Holds (ByteArray.size (textOf l_1 ++ textOf l_2 ++ { data := #[(0 : UInt8)] }) + ByteArray.size (Lv p (1 : Int)) ≤ (9223372036854775807 : Nat)) ∧ Holds (ok l (2 : Int)) ∧ Holds (ByteArray.size (textOf l_1 ++ textOf l_2 ++ { data := #[(0 : UInt8)] } ++ Lv p (1 : Int)) + ByteArray.size (Lv l (2 : Int)) ≤ (9223372036854775807 : Nat)) ∧ R (AV.s (textOf l_1 ++ textOf l_2 ++ { data := #[(0 : UInt8)] } ++ Lv p (1 : Int) ++ Lv l (2 : Int))) [Blk.cells [AV.i IntKind.u8 a0, AV.i IntKind.u8 a1, AV.i IntKind.u8 a2, AV.i IntKind.u8 a3] true, Blk.cells [AV.i IntKind.u8 b0, AV.i IntKind.u8 b1, AV.i IntKind.u8 b2, AV.i IntKind.u8 b3] true]) := by kernel_rfl
theorem vc22 (Lv : Int → Int → ByteArray) (ok : Int → Int → Prop) (a0 a1 a2 a3 a4 a5 a6 a7 a8 a9 a10 a11 a12 a13 a14 a15 b0 b1 b2 b3 b4 b5 b6 b7 b8 b9 b10 b11 b12 b13 b14 b15 p l : Int) (R : AV → Hp → Prop) : (wpFn P (tcons 29 (tnum ok fun x n => .s (Lv x n)) tnil) W22 noL 0 Go.Proofs.Try.f22 [.ag [.i .u8 a0, .i .u8 a1, .i .u8 a2, .i .u8 a3, .i .u8 a4, .i .u8 a5, .i .u8 a6, .i .u8 a7, .i .u8 a8, .i .u8 a9, .i .u8 a10, .i .u8 a11, .i .u8 a12, .i .u8 a13, .i .u8 a14, .i .u8 a15], .ag [.i .u8 b0, .i .u8 b1, .i .u8 b2, .i .u8 b3, .i .u8 b4, .i .u8 b5, .i .u8 b6, .i .u8 b7, .i .u8 b8, .i .u8 b9, .i .u8 b10, .i .u8 b11, .i .u8 b12, .i .u8 b13, .i .u8 b14, .i .u8 b15], .i .i64 p, .i .i64 l] [] R) = (Holds ((16 : Nat) ≤ List.length [AV.i IntKind.u8 a0, AV.i IntKind.u8 a1, AV.i IntKind.u8 a2, AV.i IntKind.u8 a3, AV.i IntKind.u8 a4, AV.i IntKind.u8 a5, AV.i IntKind.u8 a6, AV.i IntKind.u8 a7, AV.i IntKind.u8 a8, AV.i IntKind.u8 a9, AV.i IntKind.u8 a10, AV.i IntKind.u8 a11, AV.i IntKind.u8 a12, AV.i IntKind.u8 a13, AV.i IntKind.u8 a14, AV.i IntKind.u8 a15]) ∧ ∃ (l_1 : List Int), Holds (numsOf [AV.i IntKind.u8 a0, AV.i IntKind.u8 a1, AV.i IntKind.u8 a2, AV.i IntKind.u8 a3, AV.i IntKind.u8 a4, AV.i IntKind.u8 a5, AV.i IntKind.u8 a6, AV.i IntKind.u8 a7, AV.i IntKind.u8 a8, AV.i IntKind.u8 a9, AV.i IntKind.u8 a10, AV.i IntKind.u8 a11, AV.i IntKind.u8 a12, AV.i IntKind.u8 a13, AV.i IntKind.u8 a14, AV.i IntKind.u8 a15] = some l_1) ∧ Holds ((16 : Nat) ≤ List.length [AV.i IntKind.u8 b0, AV.i IntKind.u8 b1, AV.i IntKind.u8 b2, AV.i IntKind.u8 b3, AV.i IntKind.u8 b4, AV.i IntKind.u8 b5, AV.i IntKind.u8 b6, AV.i IntKind.u8 b7, AV.i IntKind.u8 b8, AV.i IntKind.u8 b9, AV.i IntKind.u8 b10, AV.i IntKind.u8 b11, AV.i IntKind.u8 b12, AV.i IntKind.u8 b13, AV.i IntKind.u8 b14, AV.i IntKind.u8 b15]) ∧ ∃ (l_2 : List Int), Holds (numsOf [AV.i IntKind.u8 b0, AV.i IntKind.u8 b1, AV.i IntKind.u8 b2, AV.i IntKind.u8 b3, AV.i IntKind.u8 b4, AV.i IntKind.u8 b5, AV.i IntKind.u8 b6, AV.i IntKind.u8 b7, AV.i IntKind.u8 b8, AV.i IntKind.u8 b9, AV.i IntKind.u8 b10, AV.i IntKind.u8 b11, AV.i IntKind.u8 b12, AV.i IntKind.u8 b13, AV.i IntKind.u8 b14, AV.i IntKind.u8 b15] = some l_2) ∧ Holds (ByteArray.size (textOf l_1) + ByteArray.size (textOf l_2) ≤ (9223372036854775807 : Nat)) ∧ Holds (ok l (4 : Int)) ∧ Holds (ByteArray.size (textOf l_1 ++ textOf l_2) + ByteArray.size (Lv l (4 : Int)) ≤ (9223372036854775807 : Nat)) ∧ Holds (ByteArray.size (textOf l_1 ++ textOf l_2 ++ Lv l (4 : Int)) + (3 : Nat) ≤ (9223372036854775807 : Nat)) ∧ Holds (ok p (1 : Int)) ∧ Holds (ByteArray.size (textOf l_1 ++ textOf l_2 ++ Lv l (4 : Int) ++ { data := #[(0 : UInt8), (0 : UInt8), (0 : UInt8)] }) + ByteArray.size (Lv p (1 : Int)) ≤ (9223372036854775807 : Nat)) ∧ R (AV.s (textOf l_1 ++ textOf l_2 ++ Lv l (4 : Int) ++ { data := #[(0 : UInt8), (0 : UInt8), (0 : UInt8)] } ++ Lv p (1 : Int))) [Blk.cells [AV.i IntKind.u8 a0, AV.i IntKind.u8 a1, AV.i IntKind.u8 a2, AV.i IntKind.u8 a3, AV.i IntKind.u8 a4, AV.i IntKind.u8 a5, AV.i IntKind.u8 a6, AV.i IntKind.u8 a7, AV.i IntKind.u8 a8, AV.i IntKind.u8 a9, AV.i IntKind.u8 a10, AV.i IntKind.u8 a11, AV.i IntKind.u8 a12, AV.i IntKind.u8 a13, AV.i IntKind.u8 a14, AV.i IntKind.u8 a15] true, Blk.cells [AV.i IntKind.u8 b0, AV.i IntKind.u8 b1, AV.i IntKind.u8 b2, AV.i IntKind.u8 b3, AV.i IntKind.u8 b4, AV.i IntKind.u8 b5, AV.i IntKind.u8 b6, AV.i IntKind.u8 b7, AV.i IntKind.u8 b8, AV.i IntKind.u8 b9, AV.i IntKind.u8 b10, AV.i IntKind.u8 b11, AV.i IntKind.u8 b12, AV.i IntKind.u8 b13, AV.i IntKind.u8 b14, AV.i IntKind.u8 b15] true]) := by kernel_rfl
theorem vc21 (Lv : Int → Int → ByteArray) (ok : Int → Int → Prop) (a0 a1 a2 a3 b0 b1 b2 b3 p l : Int) (R : AV → Hp → Prop) : (wpFn P (tcons 30 (tnum ok fun x n => .s (Lv x n)) tnil) noW (headA p l [.i .u8 a0, .i .u8 a1, .i .u8 a2, .i .u8 a3] [.i .u8 b0, .i .u8 b1, .i .u8 b2, .i .u8 b3]) 0 Go.Proofs.Try.f21 [.ag [.i .u8 a0, .i .u8 a1, .i .u8 a2, .i .u8 a3], .ag [.i .u8 b0, .i .u8 b1, .i .u8 b2, .i .u8 b3], .i .i64 p, .i .i64 l] [] R) = (Wk (0 : Nat) { t := [.bad, .bad, AV.i IntKind.i64 p, AV.i IntKind.i64 l, AV.p (0 : Nat) (0 : Nat), AV.p (1 : Nat) (0 : Nat), .bad, .bad, .bad, AV.s { data := #[] }, AV.i IntKind.i64 (0 : Int), .bad, .bad, .bad, .bad, .bad, .bad, .bad, .bad, .bad, .bad, .bad, .bad, .bad, .bad, .bad, .bad, .bad, .bad, .bad, .bad, .bad, .bad, .bad, .bad, .bad, .bad, .bad, .bad, .bad, .bad, .bad, .bad], h := [Blk.cells [AV.i IntKind.u8 a0, AV.i IntKind.u8 a1, AV.i IntKind.u8 a2, AV.i IntKind.u8 a3] true, Blk.cells [AV.i IntKind.u8 b0, AV.i IntKind.u8 b1, AV.i IntKind.u8 b2, AV.i IntKind.u8 b3] true] } { t := [.bad, .bad, AV.i IntKind.i64 p, AV.i IntKind.i64 l, AV.p (0 : Nat) (0 : Nat), AV.p (1 : Nat) (0 : Nat), .bad, .bad, .bad, AV.s { data := #[] }, AV.i IntKind.i64 (0 : Int), .bad, .bad, .bad, .bad, .bad, .bad, .bad, .bad, .bad, .bad, .bad, .bad, .bad, .bad, .bad, .bad, .bad, .bad, .bad, .bad, .bad, .bad, .bad, .bad, .bad, .bad, .bad, .bad, .bad, .bad, .bad, .bad], h := [Blk.cells [AV.i IntKind.u8 a0, AV.i IntKind.u8 a1, AV.i IntKind.u8 a2, AV.i IntKind.u8 a3] true, Blk.cells [AV.i IntKind.u8 b0, AV.i IntKind.u8 b1, AV.i IntKind.u8 b2, AV.i IntKind.u8 b3] true] } ∧ ∃ (I : Nat → ByteArray × Int → Prop), ∃ (n : Nat), I n ({ data := #[] }, (0 : Int)) ∧ ∀ (a : ByteArray × Int) (n : Nat), I n a → br (decide (Prod.snd a < (4 : Int))) (Holds ((0 : Int) ≤ Prod.snd a ∧ Prod.snd a < (↑(4 : Nat) : Int)) ∧ ∃ (n_1 : Int), Holds ([AV.i IntKind.u8 a0, AV.i IntKind.u8 a1, AV.i IntKind.u8 a2, AV.i IntKind.u8 a3][(0 : Nat) + Int.toNat (Prod.snd a) * (1 : Nat)]? = some (AV.i IntKind.u8 n_1)) ∧ Holds ((1 : Nat) ≤ List.length [AV.i IntKind.u8 n_1]) ∧ ∃ (l_1 : List Int), Holds (numsOf [AV.i IntKind.u8 n_1] = some l_1) ∧ Holds (ByteArray.size (Prod.fst a) + ByteArray.size (textOf l_1) ≤ (9223372036854775807 : Nat)) ∧ Wk (0 : Nat) { t := [.bad, .bad, AV.i IntKind.i64 p, AV.i IntKind.i64 l, AV.p (0 : Nat) (0 : Nat), AV.p (1 : Nat) (0 : Nat), .bad, .bad, .bad, AV.s (Prod.fst a ++ textOf l_1), AV.i IntKind.i64 (IntKind.wrap IntKind.i64 (Prod.snd a + (1 : Int))), .bad, .bad, .bad, .bad, .bad, .bad, .bad, .bad, .bad, .bad, .bad, .bad, .bad, .bad, .bad, .bad, .bad, .bad, .bad, .bad, .bad, .bad, .bad, .bad, .bad, .bad, .bad, .bad, .bad, .bad, .bad, .bad], h := [Blk.cells [AV.i IntKind.u8 a0, AV.i IntKind.u8 a1, AV.i IntKind.u8 a2, AV.i IntKind.u8 a3] true, Blk.cells [AV.i IntKind.u8 b0, AV.i IntKind.u8 b1, AV.i IntKind.u8 b2, AV.i IntKind.u8 b3] true, Blk.cells [AV.i IntKind.u8 n_1] true] } { t := [.bad, .bad, AV.i IntKind.i64 p, AV.i IntKind.i64 l, AV.p (0 : Nat) (0 : Nat), AV.p (1 : Nat) (0 : Nat), .bad, .bad, .bad, AV.s (Prod.fst a ++ textOf l_1), AV.i IntKind.i64 (IntKind.wrap IntKind.i64 (Prod.snd a + (1 : Int))), .bad, .bad, .bad, .bad, .bad, .bad, .bad, .bad, .bad, .bad, .bad, .bad, .bad, .bad, .bad, .bad, .bad, .bad, .bad, .bad, .bad, .bad, .bad, .bad, .bad, .bad, .bad, .bad, .bad, .bad, .bad, .bad], h := [Blk.cells [AV.i IntKind.u8 a0, AV.i IntKind.u8 a1, AV.i IntKind.u8 a2, AV.i IntKind.u8 a3] true, Blk.cells [AV.i IntKind.u8 b0, AV.i IntKind.u8 b1, AV.i IntKind.u8 b2, AV.i IntKind.u8 b3] true] } ∧ ∃ (m : Nat), Holds (m < n) ∧ I m (Prod.fst a ++ textOf l_1, IntKind.wrap IntKind.i64 (Prod.snd a + (1 : Int)))) (Wk (0 : Nat) { t := [.bad, .bad, AV.i IntKind.i64 p, AV.i IntKind.i64 l, AV.p (0 : Nat) (0 : Nat), AV.p (1 : Nat) (0 : Nat), .bad, .bad, .bad, AV.s (Prod.fst a), .bad, AV.i IntKind.i64 (0 : Int), .bad, .bad, .bad, .bad, .bad, .bad, .bad, .bad, .bad, .bad, .bad, .bad, .bad, .bad, .bad, .bad, .bad, .bad, .bad, .bad, .bad, .bad, .bad, .bad, .bad, .bad, .bad, .bad, .bad, .bad, .bad], h := [Blk.cells [AV.i IntKind.u8 a0, AV.i IntKind.u8 a1, AV.i IntKind.u8 a2, AV.i IntKind.u8 a3] true, Blk.cells [AV.i IntKind.u8 b0, AV.i IntKind.u8 b1, AV.i IntKind.u8 b2, AV.i IntKind.u8 b3] true] } { t := [.bad, .bad, AV.i IntKind.i64 p, AV.i IntKind.i64 l, AV.p (0 : Nat) (0 : Nat), AV.p (1 : Nat) (0 : Nat), .bad, .bad, .bad, AV.s a.1, .bad, AV.i IntKind.i64 (0 : Int), .bad, .bad, .bad, .bad, .bad, .bad, .bad, .bad, .bad, .bad, .bad, .bad, .bad, .bad, .bad, .bad, .bad, .bad, .bad, .bad, .bad, .bad, .bad, .bad, .bad, .bad, .bad, .bad, .bad, .bad, .bad], h := [Blk.cells [AV.i IntKind.u8 a0, AV.i IntKind.u8 a1, AV.i IntKind.u8 a2, AV.i IntKind.u8 a3] true, Blk.cells [AV.i IntKind.u8 b0, AV.i IntKind.u8 b1, AV.i IntKind.u8 b2, AV.i IntKind.u8 b3] true] } ∧ ∃ (I : Nat → ByteArray × Int → Prop), ∃ (n : Nat), I n (Prod.fst a, (0 : Int)) ∧ ∀ (a : ByteArray × Int) (n : Nat), I n a → br (decide (Prod.snd a < (4 : Int))) (Holds ((0 : Int) ≤ Prod.snd a ∧ Prod.snd a < (↑(4 : Nat) : Int)) ∧ ∃ (n_1 : Int), Holds ([AV.i IntKind.u8 b0, AV.i IntKind.u8 b1, AV.i IntKind.u8 b2, AV.i IntKind.u8 b3][(0 : Nat) + Int.toNat (Prod.snd a) * (1 : Nat)]? = some (AV.i IntKind.u8 n_1)) ∧ Holds ((1 : Nat) ≤ List.length [AV.i IntKind.u8 n_1]) ∧ ∃ (l_1 : List Int), Holds (numsOf [AV.i IntKind.u8 n_1] = some l_1) ∧ Holds (ByteArray.size (Prod.fst a) + ByteArray.size (textOf l_1) ≤ (9223372036854775807 : Nat)) ∧ Wk (0 : Nat) { t := [.bad, .bad, AV.i IntKind.i64 p, AV.i IntKind.i64 l, AV.p (0 : Nat) (0 : Nat), AV.p (1 : Nat) (0 : Nat), .bad, .bad, .bad, AV.s (Prod.fst a ++ textOf l_1), .bad, AV.i IntKind.i64 (IntKind.wrap IntKind.i64 (Prod.snd a + (1 : Int))), .bad, .bad, .bad, .bad, .bad, .bad, .bad, .bad, .bad, .bad, .bad, .bad, .bad, .bad, .bad, .bad, .bad, .bad, .bad, .bad, .bad, .bad, .bad, .bad, .bad, .bad, .bad, .bad, .bad, .bad, .bad], h := [Blk.cells [AV.i IntKind.u8 a0, AV.i IntKind.u8 a1, AV.i IntKind.u8 a2, AV.i IntKind.u8 a3] true, Blk.cells [AV.i IntKind.u8 b0, AV.i IntKind.u8 b1, AV.i IntKind.u8 b2, AV.i IntKind.u8 b3] true, Blk.cells [AV.i IntKind.u8 n_1] true] } { t := [.bad, .bad, AV.i IntKind.i64 p, AV.i IntKind.i64 l, AV.p (0 : Nat) (0 : Nat), AV.p (1 : Nat) (0 : Nat), .bad, .bad, .bad, AV.s (Prod.fst a ++ textOf l_1), .bad, AV.i IntKind.i64 (IntKind.wrap IntKind.i64 (Prod.snd a + (1 : Int))), .bad, .bad, .bad, .bad, .bad, .bad, .bad, .bad, .bad, .bad, .bad, .bad, .bad, .bad, .bad, .bad, .bad, .bad, .bad, .bad, .bad, .bad, .bad, .bad, .bad, .bad, .bad, .bad, .bad, .bad, .bad], h := [Blk.cells [AV.i IntKind.u8 a0, AV.i IntKind.u8 a1, AV.i IntKind.u8 a2, AV.i IntKind.u8 a3] true, Blk.cells [AV.i IntKind.u8 b0, AV.i IntKind.u8 b1, AV.i IntKind.u8 b2, AV.i IntKind.u8 b3] true] } ∧ ∃ (m : Nat), Holds (m < n) ∧ I m (Prod.fst a ++ textOf l_1, IntKind.wrap IntKind.i64 (Prod.snd a + (1 : Int)))) (Holds (ok (0 : Int) (1 : Int)) ∧ Holds (ByteArray.size (Prod.fst a) + ByteArray.size (Lv (0 : Int) (1 : Int)) ≤ (9223372036854775807 : Nat)) ∧ Holds (ok p (1 : Int)) ∧ Holds (ByteArray.size (Prod.fst a ++ Lv (0 : Int) (1 : Int)) + ByteArray.size (Lv p (1 : Int)) ≤ (9223372036854775807 : Nat)) ∧ Holds (ok l (2 : Int)) ∧ Holds (ByteArray.size (Prod.fst a ++ Lv (0 : Int) (1 : Int) ++ Lv p (1 : Int)) + ByteArray.size (Lv l (2 : Int)) ≤ (9223372036854775807 : Nat)) ∧ R (AV.s (Prod.fst a ++ Lv (0 : Int) (1 : Int) ++ Lv p (1 : Int) ++ Lv l (2 : Int))) [Blk.cells [AV.i IntKind.u8 a0, AV.i IntKind.u8 a1, AV.i IntKind.u8 a2, AV.i IntKind.u8 a3] true, Blk.cells [AV.i IntKind.u8 b0, AV.i IntKind.u8 b1, AV.i IntKind.u8 b2, AV.i IntKind.u8 b3] true]))) := by kernel_rfl
theorem vc23 (Lv : Int → Int → ByteArray) (ok : Int → Int → Prop) (a0 a1 a2 a3 a4 a5 a6 a7 a8 a9 a10 a11 a12 a13 a14 a15 b0 b1 b2 b3 b4 b5 b6 b7 b8 b9 b10 b11 b12 b13 b14 b15 p l : Int) (R : AV → Hp → Prop) : (wpFn P (tcons 30 (tnum ok fun x n => .s (Lv x n)) tnil) noW (headA p l [.i .u8 a0, .i .u8 a1, .i .u8 a2, .i .u8 a3, .i .u8 a4, .i .u8 a5, .i .u8 a6, .i .u8 a7, .i .u8 a8, .i .u8 a9, .i .u8 a10, .i .u8 a11, .i .u8 a12, .i .u8 a13, .i .u8 a14, .i .u8 a15] [.i .u8 b0, .i .u8 b1, .i .u8 b2, .i .u8 b3, .i .u8 b4, .i .u8 b5, .i .u8 b6, .i .u8 b7, .i .u8 b8, .i .u8 b9, .i .u8 b10, .i .u8 b11, .i .u8 b12, .i .u8 b13, .i .u8 b14, .i .u8 b15]) 0 Go.Proofs.Try.f23 [.ag [.i .u8 a0, .i .u8 a1, .i .u8 a2, .i .u8 a3, .i .u8 a4, .i .u8 a5, .i .u8 a6, .i .u8 a7, .i .u8 a8, .i .u8 a9, .i .u8 a10, .i .u8 a11, .i .u8 a12, .i .u8 a13, .i .u8 a14, .i .u8 a15], .ag [.i .u8 b0, .i .u8 b1, .i .u8 b2, .i .u8 b3, .i .u8 b4, .i .u8 b5, .i .u8 b6, .i .u8 b7, .i .u8 b8, .i .u8 b9, .i .u8 b10, .i .u8 b11, .i .u8 b12, .i .u8 b13, .i .u8 b14, .i .u8 b15], .i .i64 p, .i .i64 l] [] R) = (Wk (0 : Nat) { t := [.bad, .bad, AV.i IntKind.i64 p, AV.i IntKind.i64 l, AV.p (0 : Nat) (0 : Nat), AV.p (1 : Nat) (0 : Nat), .bad, .bad, .bad, AV.s { data := #[] }, AV.i IntKind.i64 (0 : Int), .bad, .bad, .bad, .bad, .bad, .bad, .bad, .bad, .bad, .bad, .bad, .bad, .bad, .bad, .bad, .bad, .bad, .bad, .bad, .bad, .bad, .bad, .bad, .bad, .bad, .bad, .bad, .bad, .bad, .bad, .bad, .bad], h := [Blk.cells [AV.i IntKind.u8 a0, AV.i IntKind.u8 a1, AV.i IntKind.u8 a2, AV.i IntKind.u8 a3, AV.i IntKind.u8 a4, AV.i IntKind.u8 a5, AV.i IntKind.u8 a6, AV.i IntKind.u8 a7, AV.i IntKind.u8 a8, AV.i IntKind.u8 a9, AV.i IntKind.u8 a10, AV.i IntKind.u8 a11, AV.i IntKind.u8 a12, AV.i IntKind.u8 a13, AV.i IntKind.u8 a14, AV.i IntKind.u8 a15] true, Blk.cells [AV.i IntKind.u8 b0, AV.i IntKind.u8 b1, AV.i IntKind.u8 b2, AV.i IntKind.u8 b3, AV.i IntKind.u8 b4, AV.i IntKind.u8 b5, AV.i IntKind.u8 b6, AV.i IntKind.u8 b7, AV.i IntKind.u8 b8, AV.i IntKind.u8 b9, AV.i IntKind.u8 b10, AV.i IntKind.u8 b11, AV.i IntKind.u8 b12, AV.i IntKind.u8 b13, AV.i IntKind.u8 b14, AV.i IntKind.u8 b15] true] } { t := [.bad, .bad, AV.i IntKind.i64 p, AV.i IntKind.i64 l, AV.p (0 : Nat) (0 : Nat), AV.p (1 : Nat) (0 : Nat), .bad, .bad, .bad, AV.s { data := #[] }, AV.i IntKind.i64 (0 : Int), .bad, .bad, .bad, .bad, .bad, .bad, .bad, .bad, .bad, .bad, .bad, .bad, .bad, .bad, .bad, .bad, .bad, .bad, .bad, .bad, .bad, .bad, .bad, .bad, .bad, .bad, .bad, .bad, .bad, .bad, .bad, .bad], h := [Blk.cells [AV.i IntKind.u8 a0, AV.i IntKind.u8 a1, AV.i IntKind.u8 a2, AV.i IntKind.u8 a3, AV.i IntKind.u8 a4, AV.i IntKind.u8 a5, AV.i IntKind.u8 a6, AV.i IntKind.u8 a7, AV.i IntKind.u8 a8, AV.i IntKind.u8 a9, AV.i IntKind.u8 a10, AV.i IntKind.u8 a11, AV.i IntKind.u8 a12, AV.i IntKind.u8 a13, AV.i IntKind.u8 a14, AV.i IntKind.u8 a15] true, Blk.cells [AV.i IntKind.u8 b0, AV.i IntKind.u8 b1, AV.i IntKind.u8 b2, AV.i IntKind.u8 b3, AV.i IntKind.u8 b4, AV.i IntKind.u8 b5, AV.i IntKind.u8 b6, AV.i IntKind.u8 b7, AV.i IntKind.u8 b8, AV.i IntKind.u8 b9, AV.i IntKind.u8 b10, AV.i IntKind.u8 b11, AV.i IntKind.u8 b12, AV.i IntKind.u8 b13, AV.i IntKind.u8 b14, AV.i IntKind.u8 b15] true] } ∧ ∃ (I : Nat → ByteArray × Int → Prop), ∃ (n : Nat), I n ({ data := #[] }, (0 : Int)) ∧ ∀ (a : ByteArray × Int) (n : Nat), I n a → br (decide (Prod.snd a < (16 : Int))) (Holds ((0 : Int) ≤ Prod.snd a ∧ Prod.snd a < (↑(16 : Nat) : Int)) ∧ ∃ (n_1 : Int), Holds ([AV.i IntKind.u8 a0, AV.i IntKind.u8 a1, AV.i IntKind.u8 a2, AV.i IntKind.u8 a3, AV.i IntKind.u8 a4, AV.i IntKind.u8 a5, AV.i IntKind.u8 a6, AV.i IntKind.u8 a7, AV.i IntKind.u8 a8, AV.i IntKind.u8 a9, AV.i IntKind.u8 a10, AV.i IntKind.u8 a11, AV.i IntKind.u8 a12, AV.i IntKind.u8 a13, AV.i IntKind.u8 a14, AV.i IntKind.u8 a15][(0 : Nat) + Int.toNat (Prod.snd a) * (1 : Nat)]? = some (AV.i IntKind.u8 n_1)) ∧ Holds ((1 : Nat) ≤ List.length [AV.i IntKind.u8 n_1]) ∧ ∃ (l_1 : List Int), Holds (numsOf [AV.i IntKind.u8 n_1] = some l_1) ∧ Holds (ByteArray.size (Prod.fst a) + ByteArray.size (textOf l_1) ≤ (9223372036854775807 : Nat)) ∧ Wk (0 : Nat) { t := [.bad, .bad, AV.i IntKind.i64 p, AV.i IntKind.i64 l, AV.p (0 : Nat) (0 : Nat), AV.p (1 : Nat) (0 : Nat), .bad, .bad, .bad, AV.s (Prod.fst a ++ textOf l_1), AV.i IntKind.i64 (IntKind.wrap IntKind.i64 (Prod.snd a + (1 : Int))), .bad, .bad, .bad, .bad, .bad, .bad, .bad, .bad, .bad, .bad, .bad, .bad, .bad, .bad, .bad, .bad, .bad, .bad, .bad, .bad, .bad, .bad, .bad, .bad, .bad, .bad, .bad, .bad, .bad, .bad, .bad, .bad], h := [Blk.cells [AV.i IntKind.u8 a0, AV.i IntKind.u8 a1, AV.i IntKind.u8 a2, AV.i IntKind.u8 a3, AV.i IntKind.u8 a4, AV.i IntKind.u8 a5, AV.i IntKind.u8 a6, AV.i IntKind.u8 a7, AV.i IntKind.u8 a8, AV.i IntKind.u8 a9, AV.i IntKind.u8 a10, AV.i IntKind.u8 a11, AV.i IntKind.u8 a12, AV.i IntKind.u8 a13, AV.i IntKind.u8 a14, AV.i IntKind.u8 a15] true, Blk.cells [AV.i IntKind.u8 b0, AV.i IntKind.u8 b1, AV.i IntKind.u8 b2, AV.i IntKind.u8 b3, AV.i IntKind.u8 b4, AV.i IntKind.u8 b5, AV.i IntKind.u8 b6, AV.i IntKind.u8 b7, AV.i IntKind.u8 b8, AV.i IntKind.u8 b9, AV.i IntKind.u8 b10, AV.i IntKind.u8 b11, AV.i IntKind.u8 b12, AV.i IntKind.u8 b13, AV.i IntKind.u8 b14, AV.i IntKind.u8 b15] true, Blk.cells [AV.i IntKind.u8 n_1] true] } { t := [.bad, .bad, AV.i IntKind.i64 p, AV.i IntKind.i64 l, AV.p (0 : Nat) (0 : Nat), AV.p (1 : Nat) (0 : Nat), .bad, .bad, .bad, AV.s (Prod.fst a ++ textOf l_1), AV.i IntKind.i64 (IntKind.wrap IntKind.i64 (Prod.snd a + (1 : Int))), .bad, .bad, .bad, .bad, .bad, .bad, .bad, .bad, .bad, .bad, .bad, .bad, .bad, .bad, .bad, .bad, .bad, .bad, .bad, .bad, .bad, .bad, .bad, .bad, .bad, .bad, .bad, .bad, .bad, .bad, .bad, .bad], h := [Blk.cells [AV.i IntKind.u8 a0, AV.i IntKind.u8 a1, AV.i IntKind.u8 a2, AV.i IntKind.u8 a3, AV.i IntKind.u8 a4, AV.i IntKind.u8 a5, AV.i IntKind.u8 a6, AV.i IntKind.u8 a7, AV.i IntKind.u8 a8, AV.i IntKind.u8 a9, AV.i IntKind.u8 a10, AV.i IntKind.u8 a11, AV.i IntKind.u8 a12, AV.i IntKind.u8 a13, AV.i IntKind.u8 a14, AV.i IntKind.u8 a15] true, Blk.cells [AV.i IntKind.u8 b0, AV.i IntKind.u8 b1, AV.i IntKind.u8 b2, AV.i IntKind.u8 b3, AV.i IntKind.u8 b4, AV.i IntKind.u8 b5, AV.i IntKind.u8 b6, AV.i IntKind.u8 b7, AV.i IntKind.u8 b8, AV.i IntKind.u8 b9, AV.i IntKind.u8 b10, AV.i IntKind.u8 b11, AV.i IntKind.u8 b12, AV.i IntKind.u8 b13, AV.i IntKind.u8 b14, AV.i IntKind.u8 b15] true] } ∧ ∃ (m : Nat), Holds (m < n) ∧ I m (Prod.fst a ++ textOf l_1, IntKind.wrap IntKind.i64 (Prod.snd a + (1 : Int)))) (Wk (0 : Nat) { t := [.bad, .bad, AV.i IntKind.i64 p, AV.i IntKind.i64 l, AV.p (0 : Nat) (0 : Nat), AV.p (1 : Nat) (0 : Nat), .bad, .bad, .bad, AV.s (Prod.fst a), .bad, AV.i IntKind.i64 (0 : Int), .bad, .bad, .bad, .bad, .bad, .bad, .bad, .bad, .bad, .bad, .bad, .bad, .bad, .bad, .bad, .bad, .bad, .bad, .bad, .bad, .bad, .bad, .bad, .bad, .bad, .bad, .bad, .bad, .bad, .bad, .bad], h := [Blk.cells [AV.i IntKind.u8 a0, AV.i IntKind.u8 a1, AV.i IntKind.u8 a2, AV.i IntKind.u8 a3, AV.i IntKind.u8 a4, AV.i IntKind.u8 a5, AV.i IntKind.u8 a6, AV.i IntKind.u8 a7, AV.i IntKind.u8 a8, AV.i IntKind.u8 a9, AV.i IntKind.u8 a10, AV.i IntKind.u8 a11, AV.i IntKind.u8 a12, AV.i IntKind.u8 a13, AV.i IntKind.u8 a14, AV.i IntKind.u8 a15] true, Blk.cells [AV.i IntKind.u8 b0, AV.i IntKind.u8 b1, AV.i IntKind.u8 b2, AV.i IntKind.u8 b3, AV.i IntKind.u8 b4, AV.i IntKind.u8 b5, AV.i IntKind.u8 b6, AV.i IntKind.u8 b7, AV.i IntKind.u8 b8, AV.i IntKind.u8 b9, AV.i IntKind.u8 b10, AV.i IntKind.u8 b11, AV.i IntKind.u8 b12, AV.i IntKind.u8 b13, AV.i IntKind.u8 b14, AV.i IntKind.u8 b15] true] } { t := [.bad, .bad, AV.i IntKind.i64 p, AV.i IntKind.i64 l, AV.p (0 : Nat) (0 : Nat), AV.p (1 : Nat) (0 : Nat), .bad, .bad, .bad, AV.s a.1, .bad, AV.i IntKind.i64 (0 : Int), .bad, .bad, .bad, .bad, .bad, .bad, .bad, .bad, .bad, .bad, .bad, .bad, .bad, .bad, .bad, .bad, .bad, .bad, .bad, .bad, .bad, .bad, .bad, .bad, .bad, .bad, .bad, .bad, .bad, .bad, .bad], h := [Blk.cells [AV.i IntKind.u8 a0, AV.i IntKind.u8 a1, AV.i IntKind.u8 a2, AV.i IntKind.u8 a3, AV.i IntKind.u8 a4, AV.i IntKind.u8 a5, AV.i IntKind.u8 a6, AV.i IntKind.u8 a7, AV.i IntKind.u8 a8, AV.i IntKind.u8 a9, AV.i IntKind.u8 a10, AV.i IntKind.u8 a11, AV.i IntKind.u8 a12, AV.i IntKind.u8 a13, AV.i IntKind.u8 a14, AV.i IntKind.u8 a15] true, Blk.cells [AV.i IntKind.u8 b0, AV.i IntKind.u8 b1, AV.i IntKind.u8 b2, AV.i IntKind.u8 b3, AV.i IntKind.u8 b4, AV.i IntKind.u8 b5, AV.i IntKind.u8 b6, AV.i IntKind.u8 b7, AV.i IntKind.u8 b8, AV.i IntKind.u8 b9, AV.i IntKind.u8 b10, AV.i IntKind.u8 b11, AV.i IntKind.u8 b12, AV.i IntKind.u8 b13, AV.i IntKind.u8 b14, AV.i IntKind.u8 b15] true] } ∧ ∃ (I : Nat → ByteArray × Int → Prop), ∃ (n : Nat), I n (Prod.fst a, (0 : Int)) ∧ ∀ (a : ByteArray × Int) (n : Nat), I n a → br (decide (Prod.snd a < (16 : Int))) (Holds ((0 : Int) ≤ Prod.snd a ∧ Prod.snd a < (↑(16 : Nat) : Int)) ∧ ∃ (n_1 : Int), Holds ([AV.i IntKind.u8 b0, AV.i IntKind.u8 b1, AV.i IntKind.u8 b2, AV.i IntKind.u8 b3, AV.i IntKind.u8 b4, AV.i IntKind.u8 b5, AV.i IntKind.u8 b6, AV.i IntKind.u8 b7, AV.i IntKind.u8 b8, AV.i IntKind.u8 b9, AV.i IntKind.u8 b10, AV.i IntKind.u8 b11, AV.i IntKind.u8 b12, AV.i IntKind.u8 b13, AV.i IntKind.u8 b14, AV.i IntKind.u8 b15][(0 : Nat) + Int.toNat (Prod.snd a) * (1 : Nat)]? = some (AV.i IntKind.u8 n_1)) ∧ Holds ((1 : Nat) ≤ List.length [AV.i IntKind.u8 n_1]) ∧ ∃ (l_1 : List Int), Holds (numsOf [AV.i IntKind.u8 n_1] = some l_1) ∧ Holds (ByteArray.size (Prod.fst a) + ByteArray.size (textOf l_1) ≤ (9223372036854775807 : Nat)) ∧ Wk (0 : Nat) { t := [.bad, .bad, AV.i IntKind.i64 p, AV.i IntKind.i64 l, AV.p (0 : Nat) (0 : Nat), AV.p (1 : Nat) (0 : Nat), .bad, .bad, .bad, AV.s (Prod.fst a ++ textOf l_1), .bad, AV.i IntKind.i64 (IntKind.wrap IntKind.i64 (Prod.snd a + (1 : Int))), .bad, .bad, .bad, .bad, .bad, .bad, .bad, .bad, .bad, .bad, .bad, .bad, .bad, .bad, .bad, .bad, .bad, .bad, .bad, .bad, .bad, .bad, .bad, .bad, .bad, .bad, .bad, .bad, .bad, .bad, .bad], h := [Blk.cells [AV.i IntKind.u8 a0, AV.i IntKind.u8 a1, AV.i IntKind.u8 a2, AV.i IntKind.u8 a3, AV.i IntKind.u8 a4, AV.i IntKind.u8 a5, AV.i IntKind.u8 a6, AV.i IntKind.u8 a7, AV.i IntKind.u8 a8, AV.i IntKind.u8 a9, AV.i IntKind.u8 a10, AV.i IntKind.u8 a11, AV.i IntKind.u8 a12, AV.i IntKind.u8 a13, AV.i IntKind.u8 a14, AV.i IntKind.u8 a15] true, Blk.cells [AV.i IntKind.u8 b0, AV.i IntKind.u8 b1, AV.i IntKind.u8 b2, AV.i IntKind.u8 b3, AV.i IntKind.u8 b4, AV.i IntKind.u8 b5, AV.i IntKind.u8 b6, AV.i IntKind.u8 b7, AV.i IntKind.u8 b8, AV.i IntKind.u8 b9, AV.i IntKind.u8 b10, AV.i IntKind.u8 b11, AV.i IntKind.u8 b12, AV.i IntKind.u8 b13, AV.i IntKind.u8 b14, AV.i IntKind.u8 b15] true, Blk.cells [AV.i IntKind.u8 n_1] true] } { t := [.bad, .bad, AV.i IntKind.i64 p, AV.i IntKind.i64 l, AV.p (0 : Nat) (0 : Nat), AV.p (1 : Nat) (0 : Nat), .bad, .bad, .bad, AV.s (Prod.fst a ++ textOf l_1), .bad, AV.i IntKind.i64 (IntKind.wrap IntKind.i64 (Prod.snd a + (1 : Int))), .bad, .bad, .bad, .bad, .bad, .bad, .bad, .bad, .bad, .bad, .bad, .bad, .bad, .bad, .bad, .bad, .bad, .bad, .bad, .bad, .bad, .bad, .bad, .bad, .bad, .bad, .bad, .bad, .bad, .bad, .bad], h := [Blk.cells [AV.i IntKind.u8 a0, AV.i IntKind.u8 a1, AV.i IntKind.u8 a2, AV.i IntKind.u8 a3, AV.i IntKind.u8 a4, AV.i IntKind.u8 a5, AV.i IntKind.u8 a6, AV.i IntKind.u8 a7, AV.i IntKind.u8 a8, AV.i IntKind.u8 a9, AV.i IntKind.u8 a10, AV.i IntKind.u8 a11, AV.i IntKind.u8 a12, AV.i IntKind.u8 a13, AV.i IntKind.u8 a14, AV.i IntKind.u8 a15] true, Blk.cells [AV.i IntKind.u8 b0, AV.i IntKind.u8 b1, AV.i IntKind.u8 b2, AV.i IntKind.u8 b3, AV.i IntKind.u8 b4, AV.i IntKind.u8 b5, AV.i IntKind.u8 b6, AV.i IntKind.u8 b7, AV.i IntKind.u8 b8, AV.i IntKind.u8 b9, AV.i IntKind.u8 b10, AV.i IntKind.u8 b11, AV.i IntKind.u8 b12, AV.i IntKind.u8 b13, AV.i IntKind.u8 b14, AV.i IntKind.u8 b15] true] } ∧ ∃ (m : Nat), Holds (m < n) ∧ I m (Prod.fst a ++ textOf l_1, IntKind.wrap IntKind.i64 (Prod.snd a + (1 : Int)))) (Holds (ok l (4 : Int)) ∧ Holds (ByteArray.size (Prod.fst a) + ByteArray.size (Lv l (4 : Int)) ≤ (9223372036854775807 : Nat)) ∧ Holds (ok (0 : Int) (3 : Int)) ∧ Holds (ByteArray.size (Prod.fst a ++ Lv l (4 : Int)) + ByteArray.size (Lv (0 : Int) (3 : Int)) ≤ (9223372036854775807 : Nat)) ∧ Holds (ok p (1 : Int)) ∧ Holds (ByteArray.size (Prod.fst a ++ Lv l (4 : Int) ++ Lv (0 : Int) (3 : Int)) + ByteArray.size (Lv p (1 : Int)) ≤ (9223372036854775807 : Nat)) ∧ R (AV.s (Prod.fst a ++ Lv l (4 : Int) ++ Lv (0 : Int) (3 : Int) ++ Lv p (1 : Int))) [Blk.cells [AV.i IntKind.u8 a0, AV.i IntKind.u8 a1, AV.i IntKind.u8 a2, AV.i IntKind.u8 a3, AV.i IntKind.u8 a4, AV.i IntKind.u8 a5, AV.i IntKind.u8 a6, AV.i IntKind.u8 a7, AV.i IntKind.u8 a8, AV.i IntKind.u8 a9, AV.i IntKind.u8 a10, AV.i IntKind.u8 a11, AV.i IntKind.u8 a12, AV.i IntKind.u8 a13, AV.i IntKind.u8 a14, AV.i IntKind.u8 a15] true, Blk.cells [AV.i IntKind.u8 b0, AV.i IntKind.u8 b1, AV.i IntKind.u8 b2, AV.i IntKind.u8 b3, AV.i IntKind.u8 b4, AV.i IntKind.u8 b5, AV.i IntKind.u8 b6, AV.i IntKind.u8 b7, AV.i IntKind.u8 b8, AV.i IntKind.u8 b9, AV.i IntKind.u8 b10, AV.i IntKind.u8 b11, AV.i IntKind.u8 b12, AV.i IntKind.u8 b13, AV.i IntKind.u8 b14, AV.i IntKind.u8 b15] true]))) := by kernel_rfl
theorem vc10 (P4 Q4 P6 Q6 : List Int → List Int → Int → Int → ByteArray) (a0 a1 a2 a3 b0 b1 b2 b3 c0 c1 c2 c3 c4 c5 c6 c7 c8 c9 c10 c11 c12 c13 c14 c15 d0 d1 d2 d3 d4 d5 d6 d7 d8 d9 d10 d11 d12 d13 d14 d15 p l : Int) (R : AV → Hp → Prop) : (wpFn P (TH P4 Q4 P6 Q6) W10 noL 0 Go.Proofs.Try.f10 [.ag [.i .u8 a0, .i .u8 a1, .i .u8 a2, .i .u8 a3], .ag [.i .u8 b0, .i .u8 b1, .i .u8 b2, .i .u8 b3], .ag [.i .u8 c0, .i .u8 c1, .i .u8 c2, .i .u8 c3, .i .u8 c4, .i .u8 c5, .i .u8 c6, .i .u8 c7, .i .u8 c8, .i .u8 c9, .i .u8 c10, .i .u8 c11, .i .u8 c12, .i .u8 c13, .i .u8 c14, .i .u8 c15], .ag [.i .u8 d0, .i .u8 d1, .i .u8 d2, .i .u8 d3, .i .u8 d4, .i .u8 d5, .i .u8 d6, .i .u8 d7, .i .u8 d8, .i .u8 d9, .i .u8 d10, .i .u8 d11, .i .u8 d12, .i .u8 d13, .i .u8 d14, .i .u8 d15], .i .i64 p, .i .i64 l] [] R) = (∃ (A : List Int), ∃ (B : List Int), Holds ([AV.i IntKind.u8 a0, AV.i IntKind.u8 a1, AV.i IntKind.u8 a2, AV.i IntKind.u8 a3] = List.map (AV.i IntKind.u8) A) ∧ Holds ([AV.i IntKind.u8 b0, AV.i IntKind.u8 b1, AV.i IntKind.u8 b2, AV.i IntKind.u8 b3] = List.map (AV.i IntKind.u8) B) ∧ Holds (List.length A = (4 : Nat)) ∧ Holds (List.length B = (4 : Nat)) ∧ Holds (ok64 p) ∧ Holds (ok64 l) ∧ ∃ (A_1 : List Int), ∃ (B_1 : List Int), Holds ([AV.i IntKind.u8 a0, AV.i IntKind.u8 a1, AV.i IntKind.u8 a2, AV.i IntKind.u8 a3] = List.map (AV.i IntKind.u8) A_1) ∧ Holds ([AV.i IntKind.u8 b0, AV.i IntKind.u8 b1, AV.i IntKind.u8 b2, AV.i IntKind.u8 b3] = List.map (AV.i IntKind.u8) B_1) ∧ Holds (List.length A_1 = (4 : Nat)) ∧ Holds (List.length B_1 = (4 : Nat)) ∧ Holds (ok64 p) ∧ Holds (ok64 l) ∧ br (ByteArray.toList (P4 A B p l) == ByteArray.toList (Q4 A_1 B_1 p l)) (∃ (A : List Int), ∃ (B : List Int), Holds ([AV.i IntKind.u8 c0, AV.i IntKind.u8 c1, AV.i IntKind.u8 c2, AV.i IntKind.u8 c3, AV.i IntKind.u8 c4, AV.i IntKind.u8 c5, AV.i IntKind.u8 c6, AV.i IntKind.u8 c7, AV.i IntKind.u8 c8, AV.i IntKind.u8 c9, AV.i IntKind.u8 c10, AV.i IntKind.u8 c11, AV.i IntKind.u8 c12, AV.i IntKind.u8 c13, AV.i IntKind.u8 c14, AV.i IntKind.u8 c15] = List.map (AV.i IntKind.u8) A) ∧ Holds ([AV.i IntKind.u8 d0, AV.i IntKind.u8 d1, AV.i IntKind.u8 d2, AV.i IntKind.u8 d3, AV.i IntKind.u8 d4, AV.i IntKind.u8 d5, AV.i IntKind.u8 d6, AV.i IntKind.u8 d7, AV.i IntKind.u8 d8, AV.i IntKind.u8 d9, AV.i IntKind.u8 d10, AV.i IntKind.u8 d11, AV.i IntKind.u8 d12, AV.i IntKind.u8 d13, AV.i IntKind.u8 d14, AV.i IntKind.u8 d15] = List.map (AV.i IntKind.u8) B) ∧ Holds (List.length A = (16 : Nat)) ∧ Holds (List.length B = (16 : Nat)) ∧ Holds (ok64 p) ∧ Holds (ok64 l) ∧ ∃ (A_2 : List Int), ∃ (B_2 : List Int), Holds ([AV.i IntKind.u8 c0, AV.i IntKind.u8 c1, AV.i IntKind.u8 c2, AV.i IntKind.u8 c3, AV.i IntKind.u8 c4, AV.i IntKind.u8 c5, AV.i IntKind.u8 c6, AV.i IntKind.u8 c7, AV.i IntKind.u8 c8, AV.i IntKind.u8 c9, AV.i IntKind.u8 c10, AV.i IntKind.u8 c11, AV.i IntKind.u8 c12, AV.i IntKind.u8 c13, AV.i IntKind.u8 c14, AV.i IntKind.u8 c15] = List.map (AV.i IntKind.u8) A_2) ∧ Holds ([AV.i IntKind.u8 d0, AV.i IntKind.u8 d1, AV.i IntKind.u8 d2, AV.i IntKind.u8 d3, AV.i IntKind.u8 d4, AV.i IntKind.u8 d5, AV.i IntKind.u8 d6, AV.i IntKind.u8 d7, AV.i IntKind.u8 d8, AV.i IntKind.u8 d9, AV.i IntKind.u8 d10, AV.i IntKind.u8 d11, AV.i IntKind.u8 d12, AV.i IntKind.u8 d13, AV.i IntKind.u8 d14, AV.i IntKind.u8 d15] = List.map (AV.i IntKind.u8) B_2) ∧ Holds (List.length A_2 = (16 : Nat)) ∧ Holds (List.length B_2 = (16 : Nat)) ∧ Holds (ok64 p) ∧ Holds (ok64 l) ∧ R (AV.bo (ByteArray.toList (P6 A B p l) == ByteArray.toList (Q6 A_2 B_2 p l))) [Blk.cells [AV.i IntKind.u8 a0, AV.i IntKind.u8 a1, AV.i IntKind.u8 a2, AV.i IntKind.u8 a3] true, Blk.cells [AV.i IntKind.u8 b0, AV.i IntKind.u8 b1, AV.i IntKind.u8 b2, AV.i IntKind.u8 b3] true, Blk.cells [AV.i IntKind.u8 c0, AV.i IntKind.u8 c1, AV.i IntKind.u8 c2, AV.i IntKind.u8 c3, AV.i IntKind.u8 c4, AV.i IntKind.u8 c5, AV.i IntKind.u8 c6, AV.i IntKind.u8 c7, AV.i IntKind.u8 c8, AV.i IntKind.u8 c9, AV.i IntKind.u8 c10, AV.i IntKind.u8 c11, AV.i IntKind.u8 c12, AV.i IntKind.u8 c13, AV.i IntKind.u8 c14, AV.i IntKind.u8 c15] true, Blk.cells [AV.i IntKind.u8 d0, AV.i IntKind.u8 d1, AV.i IntKind.u8 d2, AV.i IntKind.u8 d3, AV.i IntKind.u8 d4, AV.i IntKind.u8 d5, AV.i IntKind.u8 d6, AV.i IntKind.u8 d7, AV.i IntKind.u8 d8, AV.i IntKind.u8 d9, AV.i IntKind.u8 d10, AV.i IntKind.u8 d11, AV.i IntKind.u8 d12, AV.i IntKind.u8 d13, AV.i IntKind.u8 d14, AV.i IntKind.u8 d15] true]) (R (AV.bo false) [Blk.cells [AV.i IntKind.u8 a0, AV.i IntKind.u8 a1, AV.i IntKind.u8 a2, AV.i IntKind.u8 a3] true, Blk.cells [AV.i IntKind.u8 b0, AV.i IntKind.u8 b1, AV.i IntKind.u8 b2, AV.i IntKind.u8 b3] true, Blk.cells [AV.i IntKind.u8 c0, AV.i IntKind.u8 c1, AV.i IntKind.u8 c2, AV.i IntKind.u8 c3, AV.i IntKind.u8 c4, AV.i IntKind.u8 c5, AV.i IntKind.u8 c6, AV.i IntKind.u8 c7, AV.i IntKind.u8 c8, AV.i IntKind.u8 c9, AV.i IntKind.u8 c10, AV.i IntKind.u8 c11, AV.i IntKind.u8 c12, AV.i IntKind.u8 c13, AV.i IntKind.u8 c14, AV.i IntKind.u8 c15] true, Blk.cells [AV.i IntKind.u8 d0, AV.i IntKind.u8 d1, AV.i IntKind.u8 d2, AV.i IntKind.u8 d3, AV.i IntKind.u8 d4, AV.i IntKind.u8 d5, AV.i IntKind.u8 d6, AV.i IntKind.u8 d7, AV.i IntKind.u8 d8, AV.i IntKind.u8 d9, AV.i IntKind.u8 d10, AV.i IntKind.u8 d11, AV.i IntKind.u8 d12, AV.i IntKind.u8 d13, AV.i IntKind.u8 d14, AV.i IntKind.u8 d15] true])) := by kernel_rfl
def putL : Int → Nat → List Int
  | _, 0 => []
  | x, n + 1 => putL (x / 256) n ++ [x % 256]
def Lv (x n : Int) : ByteArray := textOf (putL x n.toNat)
def Lw (x n : Int) : ByteArray := textOf (putL (x % 256 ^ n.toNat) n.toNat)
theorem textOf_append (a b : List Int) : textOf a ++ textOf b = textOf (a ++ b) := by
  apply ByteArray.ext
  apply Array.toList_inj.1
  rw [add_list]; simp [textOf]
theorem textOf_size (a : List Int) : (textOf a).size = a.length := by rw [size_len]; simp [textOf]
theorem textOf_nil : (⟨#[]⟩ : ByteArray) = textOf [] := rfl
theorem textOf_zero : (⟨#[0]⟩ : ByteArray) = textOf [0] := rfl
theorem putL_len : ∀ (n : Nat) (x : Int), (putL x n).length = n
  | 0, x => rfl
  | n + 1, x => by rw [putL, List.length_append, putL_len n]; rfl
theorem Lw_size (x n : Int) : (Lw x n).size = n.toNat := by rw [Lw, textOf_size, putL_len]
theorem low8 {y : Int} (h : 0 ≤ y) : IntKind.wrap .u8 (Int.tmod y 256) = y % 256 := by rw [wrap8, Int.tmod_eq_emod_of_nonneg h]; omega
theorem quo8 {y : Int} (h : 0 ≤ y) (h' : y ≤ 9223372036854775807) : IntKind.wrap .i64 (Int.tdiv y 256) = y / 256 := by rw [Int.tdiv_eq_ediv_of_nonneg h, i64w (by omega) (by omega)]
def okPut (x n : Int) : Prop := 0 ≤ x ∧ x ≤ 9223372036854775807 ∧ okN n
theorem tmod_low {x M : Int} (hM : 0 < M) : (Int.tmod x M < 0 → Int.tmod x M + M = x % M) ∧ (¬ Int.tmod x M < 0 → Int.tmod x M = x % M) ∧ -M < Int.tmod x M ∧ Int.tmod x M < M := by
  by_cases h : 0 ≤ x
  · rw [Int.tmod_eq_emod_of_nonneg h]
    have h1 := Int.emod_nonneg x (b := M) (by omega)
    have h2 := Int.emod_lt_of_pos x hM
    exact ⟨fun h => by omega, fun _ => rfl, by omega, h2⟩
  · have e : Int.tmod x M = -((-x) % M) := by
      have : x = -(-x) := by omega
      rw [this, Int.neg_tmod, Int.tmod_eq_emod_of_nonneg (by omega)]; simp
    have h1 := Int.emod_nonneg (-x) (b := M) (by omega)
    have h2 := Int.emod_lt_of_pos (-x) hM
    have h3 := Int.emod_nonneg x (b := M) (by omega)
    have h4 := Int.emod_lt_of_pos x hM
    have h5 := Int.mul_ediv_add_emod (-x) M
    have h6 := Int.mul_ediv_add_emod x M
    rw [e]
    have key : (x % M + (-x) % M) = -(M * (x / M + (-x) / M)) := by rw [Int.mul_add]; omega
    generalize x / M + (-x) / M = q at key
    have q1 : -1 ≤ q := by
      refine Int.not_lt.1 fun hq => ?_
      have : M * q ≤ M * (-2) := Int.mul_le_mul_of_nonneg_left (by omega) (by omega)
      omega
    have q2 : q ≤ 0 := by
      refine Int.not_lt.1 fun hq => ?_
      have : M * 1 ≤ M * q := Int.mul_le_mul_of_nonneg_left (by omega) (by omega)
      omega
    have q3 : q = -1 ∨ q = 0 := by omega
    rcases q3 with rfl | rfl
    · exact ⟨fun _ => by omega, fun h => by omega, by omega, by omega⟩
    · exact ⟨fun h => by omega, fun h => by omega, by omega, by omega⟩
theorem run32_1 {x : Int} (h0 : 0 ≤ x) (h0' : x ≤ 9223372036854775807) : Holds (wpFn P tnil noW noL 0 Go.Proofs.Try.f32 [.i .i64 x, .i .i64 1] [] fun v _ => v = .s (Lv x 1)) := by
  refine ⟨?_⟩
  rw [vc32_1]
  simp only [low8 h0, quo8 h0 h0']
  refine ⟨⟨by simp⟩, _, ⟨rfl⟩, ⟨by simp only [textOf_size, ByteArray.size_append, List.length_cons, List.length_nil]; first | omega | decide⟩, ?_⟩
  rw [textOf_nil]
  simp only [textOf_append]
  rfl
theorem run30_1 (x : Int) : Holds (wpFn P (tcons 32 (tnum okPut fun x n => .s (Lv x n)) tnil) noW noL 0 Go.Proofs.Try.f30 [.i .i64 x, .i .i64 1] [] fun v _ => v = .s (Lw x 1)) := by
  refine ⟨?_⟩
  rw [vc30_1]
  have eM : IntKind.wrap .i64 (1 * 256) = 256 := by decide
  have hp : (256 : Int) ^ (1 : Int).toNat = 256 := by decide
  have ht := tmod_low (x := x) (M := 256) (by decide)
  rw [eM]
  refine ⟨⟨by decide⟩, br_intro (fun h => ?_) (fun h => ?_)⟩
  · have h : Int.tmod x 256 < 0 := by simpa using h
    rw [i64w (by omega) (by omega), ht.1 h]
    refine ⟨⟨by unfold okPut okN; omega⟩, ?_⟩
    unfold Lw Lv; rw [hp]
  · have h : ¬ Int.tmod x 256 < 0 := by simpa using h
    rw [ht.2.1 h]
    refine ⟨⟨by unfold okPut okN; omega⟩, ?_⟩
    unfold Lw Lv; rw [hp]
theorem run32_2 {x : Int} (h0 : 0 ≤ x) (h0' : x ≤ 9223372036854775807) : Holds (wpFn P tnil noW noL 0 Go.Proofs.Try.f32 [.i .i64 x, .i .i64 2] [] fun v _ => v = .s (Lv x 2)) := by
  refine ⟨?_⟩
  have h1 : 0 ≤ x / 256 ∧ x / 256 ≤ 9223372036854775807 := by omega
  rw [vc32_2]
  simp only [low8 h0, low8 h1.1, quo8 h0 h0', quo8 h1.1 h1.2]
  refine ⟨⟨by simp⟩, _, ⟨rfl⟩, ⟨by simp only [textOf_size, ByteArray.size_append, List.length_cons, List.length_nil]; first | omega | decide⟩, ⟨by simp⟩, _, ⟨rfl⟩, ⟨by simp only [textOf_size, ByteArray.size_append, List.length_cons, List.length_nil]; first | omega | decide⟩, ?_⟩
  rw [textOf_nil]
  simp only [textOf_append]
  rfl
theorem run30_2 (x : Int) : Holds (wpFn P (tcons 32 (tnum okPut fun x n => .s (Lv x n)) tnil) noW noL 0 Go.Proofs.Try.f30 [.i .i64 x, .i .i64 2] [] fun v _ => v = .s (Lw x 2)) := by
  refine ⟨?_⟩
  rw [vc30_2]
  have eM : IntKind.wrap .i64 (IntKind.wrap .i64 (1 * 256) * 256) = 65536 := by decide
  have hp : (256 : Int) ^ (2 : Int).toNat = 65536 := by decide
  have ht := tmod_low (x := x) (M := 65536) (by decide)
  rw [eM]
  refine ⟨⟨by decide⟩, br_intro (fun h => ?_) (fun h => ?_)⟩
  · have h : Int.tmod x 65536 < 0 := by simpa using h
    rw [i64w (by omega) (by omega), ht.1 h]
    refine ⟨⟨by unfold okPut okN; omega⟩, ?_⟩
    unfold Lw Lv; rw [hp]
  · have h : ¬ Int.tmod x 65536 < 0 := by simpa using h
    rw [ht.2.1 h]
    refine ⟨⟨by unfold okPut okN; omega⟩, ?_⟩
    unfold Lw Lv; rw [hp]
theorem run32_3 {x : Int} (h0 : 0 ≤ x) (h0' : x ≤ 9223372036854775807) : Holds (wpFn P tnil noW noL 0 Go.Proofs.Try.f32 [.i .i64 x, .i .i64 3] [] fun v _ => v = .s (Lv x 3)) := by
  refine ⟨?_⟩
  have h1 : 0 ≤ x / 256 ∧ x / 256 ≤ 9223372036854775807 := by omega
  have h2 : 0 ≤ x / 256 / 256 ∧ x / 256 / 256 ≤ 9223372036854775807 := by omega
  rw [vc32_3]
  simp only [low8 h0, low8 h1.1, low8 h2.1, quo8 h0 h0', quo8 h1.1 h1.2, quo8 h2.1 h2.2]
  refine ⟨⟨by simp⟩, _, ⟨rfl⟩, ⟨by simp only [textOf_size, ByteArray.size_append, List.length_cons, List.length_nil]; first | omega | decide⟩, ⟨by simp⟩, _, ⟨rfl⟩, ⟨by simp only [textOf_size, ByteArray.size_append, List.length_cons, List.length_nil]; first | omega | decide⟩, ⟨by simp⟩, _, ⟨rfl⟩, ⟨by simp only [textOf_size, ByteArray.size_append, List.length_cons, List.length_nil]; first | omega | decide⟩, ?_⟩
  rw [textOf_nil]
  simp only [textOf_append]
  rfl
theorem run30_3 (x : Int) : Holds (wpFn P (tcons 32 (tnum okPut fun x n => .s (Lv x n)) tnil) noW noL 0 Go.Proofs.Try.f30 [.i .i64 x, .i .i64 3] [] fun v _ => v = .s (Lw x 3)) := by
  refine ⟨?_⟩
  rw [vc30_3]
  have eM : IntKind.wrap .i64 (IntKind.wrap .i64 (IntKind.wrap .i64 (1 * 256) * 256) * 256) = 16777216 := by decide
  have hp : (256 : Int) ^ (3 : Int).toNat = 16777216 := by decide
  have ht := tmod_low (x := x) (M := 16777216) (by decide)
  rw [eM]
  refine ⟨⟨by decide⟩, br_intro (fun h => ?_) (fun h => ?_)⟩
  · have h : Int.tmod x 16777216 < 0 := by simpa using h
    rw [i64w (by omega) (by omega), ht.1 h]
    refine ⟨⟨by unfold okPut okN; omega⟩, ?_⟩
    unfold Lw Lv; rw [hp]
  · have h : ¬ Int.tmod x 16777216 < 0 := by simpa using h
    rw [ht.2.1 h]
    refine ⟨⟨by unfold okPut okN; omega⟩, ?_⟩
    unfold Lw Lv; rw [hp]
theorem run32_4 {x : Int} (h0 : 0 ≤ x) (h0' : x ≤ 9223372036854775807) : Holds (wpFn P tnil noW noL 0 Go.Proofs.Try.f32 [.i .i64 x, .i .i64 4] [] fun v _ => v = .s (Lv x 4)) := by
  refine ⟨?_⟩
  have h1 : 0 ≤ x / 256 ∧ x / 256 ≤ 9223372036854775807 := by omega
  have h2 : 0 ≤ x / 256 / 256 ∧ x / 256 / 256 ≤ 9223372036854775807 := by omega
  have h3 : 0 ≤ x / 256 / 256 / 256 ∧ x / 256 / 256 / 256 ≤ 9223372036854775807 := by omega
  rw [vc32_4]
  simp only [low8 h0, low8 h1.1, low8 h2.1, low8 h3.1, quo8 h0 h0', quo8 h1.1 h1.2, quo8 h2.1 h2.2, quo8 h3.1 h3.2]
  refine ⟨⟨by simp⟩, _, ⟨rfl⟩, ⟨by simp only [textOf_size, ByteArray.size_append, List.length_cons, List.length_nil]; first | omega | decide⟩, ⟨by simp⟩, _, ⟨rfl⟩, ⟨by simp only [textOf_size, ByteArray.size_append, List.length_cons, List.length_nil]; first | omega | decide⟩, ⟨by simp⟩, _, ⟨rfl⟩, ⟨by simp only [textOf_size, ByteArray.size_append, List.length_cons, List.length_nil]; first | omega | decide⟩, ⟨by simp⟩, _, ⟨rfl⟩, ⟨by simp only [textOf_size, ByteArray.size_append, List.length_cons, List.length_nil]; first | omega | decide⟩, ?_⟩
  rw [textOf_nil]
  simp only [textOf_append]
  rfl
theorem run30_4 (x : Int) : Holds (wpFn P (tcons 32 (tnum okPut fun x n => .s (Lv x n)) tnil) noW noL 0 Go.Proofs.Try.f30 [.i .i64 x, .i .i64 4] [] fun v _ => v = .s (Lw x 4)) := by
  refine ⟨?_⟩
  rw [vc30_4]
  have eM : IntKind.wrap .i64 (IntKind.wrap .i64 (IntKind.wrap .i64 (IntKind.wrap .i64 (1 * 256) * 256) * 256) * 256) = 4294967296 := by decide
  have hp : (256 : Int) ^ (4 : Int).toNat = 4294967296 := by decide
  have ht := tmod_low (x := x) (M := 4294967296) (by decide)
  rw [eM]
  refine ⟨⟨by decide⟩, br_intro (fun h => ?_) (fun h => ?_)⟩
  · have h : Int.tmod x 4294967296 < 0 := by simpa using h
    rw [i64w (by omega) (by omega), ht.1 h]
    refine ⟨⟨by unfold okPut okN; omega⟩, ?_⟩
    unfold Lw Lv; rw [hp]
  · have h : ¬ Int.tmod x 4294967296 < 0 := by simpa using h
    rw [ht.2.1 h]
    refine ⟨⟨by unfold okPut okN; omega⟩, ?_⟩
    unfold Lw Lv; rw [hp]
theorem and_1 (x : Int) : Go.bits .and .i64 x 255 = x % 256 := by
  unfold Go.bits
  have e : (BitVec.ofInt IntKind.i64.bits x &&& BitVec.ofInt IntKind.i64.bits 255).toNat = (x % 18446744073709551616).toNat % 256 := by
    rw [BitVec.toNat_and]
    have h1 : (BitVec.ofInt IntKind.i64.bits x).toNat = (x % 18446744073709551616).toNat := by
      rw [BitVec.toNat_ofInt]; rfl
    have h2 : (BitVec.ofInt IntKind.i64.bits 255).toNat = 2 ^ 8 - 1 := by rfl
    rw [h1, h2, Nat.and_two_pow_sub_one_eq_mod]
  simp only [e]
  have hw : ∀ m : Nat, m < 256 → IntKind.i64.wrap (m : Int) = (m : Int) := by
    intro m hm
    exact i64w (by omega) (by omega)
  rw [hw _ (Nat.mod_lt _ (by decide))]; omega
theorem and_2 (x : Int) : Go.bits .and .i64 x 65535 = x % 65536 := by
  unfold Go.bits
  have e : (BitVec.ofInt IntKind.i64.bits x &&& BitVec.ofInt IntKind.i64.bits 65535).toNat = (x % 18446744073709551616).toNat % 65536 := by
    rw [BitVec.toNat_and]
    have h1 : (BitVec.ofInt IntKind.i64.bits x).toNat = (x % 18446744073709551616).toNat := by
      rw [BitVec.toNat_ofInt]; rfl
    have h2 : (BitVec.ofInt IntKind.i64.bits 65535).toNat = 2 ^ 16 - 1 := by rfl
    rw [h1, h2, Nat.and_two_pow_sub_one_eq_mod]
  simp only [e]
  have hw : ∀ m : Nat, m < 65536 → IntKind.i64.wrap (m : Int) = (m : Int) := by
    intro m hm
    exact i64w (by omega) (by omega)
  rw [hw _ (Nat.mod_lt _ (by decide))]; omega
theorem and_4 (x : Int) : Go.bits .and .i64 x 4294967295 = x % 4294967296 := by
  unfold Go.bits
  have e : (BitVec.ofInt IntKind.i64.bits x &&& BitVec.ofInt IntKind.i64.bits 4294967295).toNat = (x % 18446744073709551616).toNat % 4294967296 := by
    rw [BitVec.toNat_and]
    have h1 : (BitVec.ofInt IntKind.i64.bits x).toNat = (x % 18446744073709551616).toNat := by
      rw [BitVec.toNat_ofInt]; rfl
    have h2 : (BitVec.ofInt IntKind.i64.bits 4294967295).toNat = 2 ^ 32 - 1 := by rfl
    rw [h1, h2, Nat.and_two_pow_sub_one_eq_mod]
  simp only [e]
  have hw : ∀ m : Nat, m < 4294967296 → IntKind.i64.wrap (m : Int) = (m : Int) := by
    intro m hm
    exact i64w (by omega) (by omega)
  rw [hw _ (Nat.mod_lt _ (by decide))]; omega
theorem run31_1 {x : Int} (h0 : 0 ≤ x) (h1 : x < 256) : Holds (wpFn P tnil noW noL 0 Go.Proofs.Try.f31 [.i .i64 x, .i .i64 1] [] fun v _ => v = .tu [.s (Lv x 1), .ni]) := by
  refine ⟨?_⟩
  rw [vc31_1]
  have k0 : Int.fdiv x ((2 : Int) ^ min (Int.toNat (IntKind.wrap .i64 (8 * IntKind.wrap .i64 (IntKind.wrap .i64 (1 - 1) - 0)))) (IntKind.bits IntKind.i64)) = x := by
    rw [show ((2 : Int) ^ min (Int.toNat (IntKind.wrap .i64 (8 * IntKind.wrap .i64 (IntKind.wrap .i64 (1 - 1) - 0)))) (IntKind.bits IntKind.i64)) = 1 from by decide, Int.fdiv_eq_ediv_of_nonneg _ (by decide)]; try omega
  have eM : IntKind.wrap .i64 (1 * 2 ^ min (Int.toNat (IntKind.wrap .i64 (8 * 1))) (IntKind.bits IntKind.i64)) = 256 := by decide
  rw [eM]
  simp only [k0, wrap8]
  refine br_intro (fun h => ?_) (fun _ => ⟨⟨by decide⟩, br_intro (fun h => ?_) (fun _ => ?_)⟩)
  · have h : x < 0 := by simpa using h
    omega
  · have h : x ≥ 256 := by simpa using h
    omega
  · repeat (refine ⟨⟨by first | decide | (simp; done)⟩, ?_⟩)
    exact ⟨_, ⟨rfl⟩, rfl⟩
theorem run29_1 (x : Int) : wpFn P (tcons 31 (tnum okBig fun x n => .tu [.s (Lv x n), .ni]) tnil) noW noL 0 Go.Proofs.Try.f29 [.i .i64 x, .i .i64 1] [] fun v _ => v = .s (Lw x 1) := by
  rw [vc29_1]
  have eM : IntKind.wrap .i64 (IntKind.wrap .i64 (1 * 2 ^ min (Int.toNat (IntKind.wrap .i64 (8 * 1))) (IntKind.bits IntKind.i64)) - 1) = 255 := by decide
  have hp : (256 : Int) ^ (1 : Int).toNat = 256 := by decide
  rw [eM, and_1]
  refine ⟨⟨by decide⟩, ⟨?_⟩, ?_⟩
  · unfold okBig; rw [hp]; omega
  · unfold Lw Lv; rw [hp]
theorem run31_2 {x : Int} (h0 : 0 ≤ x) (h1 : x < 65536) : Holds (wpFn P tnil noW noL 0 Go.Proofs.Try.f31 [.i .i64 x, .i .i64 2] [] fun v _ => v = .tu [.s (Lv x 2), .ni]) := by
  refine ⟨?_⟩
  rw [vc31_2]
  have k0 : Int.fdiv x ((2 : Int) ^ min (Int.toNat (IntKind.wrap .i64 (8 * IntKind.wrap .i64 (IntKind.wrap .i64 (2 - 1) - 0)))) (IntKind.bits IntKind.i64)) = x / 256 := by
    rw [show ((2 : Int) ^ min (Int.toNat (IntKind.wrap .i64 (8 * IntKind.wrap .i64 (IntKind.wrap .i64 (2 - 1) - 0)))) (IntKind.bits IntKind.i64)) = 256 from by decide, Int.fdiv_eq_ediv_of_nonneg _ (by decide)]; try omega
  have k1 : Int.fdiv x ((2 : Int) ^ min (Int.toNat (IntKind.wrap .i64 (8 * IntKind.wrap .i64 (IntKind.wrap .i64 (2 - 1) - IntKind.wrap .i64 (0 + 1))))) (IntKind.bits IntKind.i64)) = x := by
    rw [show ((2 : Int) ^ min (Int.toNat (IntKind.wrap .i64 (8 * IntKind.wrap .i64 (IntKind.wrap .i64 (2 - 1) - IntKind.wrap .i64 (0 + 1))))) (IntKind.bits IntKind.i64)) = 1 from by decide, Int.fdiv_eq_ediv_of_nonneg _ (by decide)]; try omega
  have eM : IntKind.wrap .i64 (1 * 2 ^ min (Int.toNat (IntKind.wrap .i64 (8 * 2))) (IntKind.bits IntKind.i64)) = 65536 := by decide
  rw [eM]
  simp only [k0, k1, wrap8]
  refine br_intro (fun h => ?_) (fun _ => ⟨⟨by decide⟩, br_intro (fun h => ?_) (fun _ => ?_)⟩)
  · have h : x < 0 := by simpa using h
    omega
  · have h : x ≥ 65536 := by simpa using h
    omega
  · repeat (refine ⟨⟨by first | decide | (simp; done)⟩, ?_⟩)
    exact ⟨_, ⟨rfl⟩, rfl⟩
theorem run29_2 (x : Int) : wpFn P (tcons 31 (tnum okBig fun x n => .tu [.s (Lv x n), .ni]) tnil) noW noL 0 Go.Proofs.Try.f29 [.i .i64 x, .i .i64 2] [] fun v _ => v = .s (Lw x 2) := by
  rw [vc29_2]
  have eM : IntKind.wrap .i64 (IntKind.wrap .i64 (1 * 2 ^ min (Int.toNat (IntKind.wrap .i64 (8 * 2))) (IntKind.bits IntKind.i64)) - 1) = 65535 := by decide
  have hp : (256 : Int) ^ (2 : Int).toNat = 65536 := by decide
  rw [eM, and_2]
  refine ⟨⟨by decide⟩, ⟨?_⟩, ?_⟩
  · unfold okBig; rw [hp]; omega
  · unfold Lw Lv; rw [hp]
theorem run31_4 {x : Int} (h0 : 0 ≤ x) (h1 : x < 4294967296) : Holds (wpFn P tnil noW noL 0 Go.Proofs.Try.f31 [.i .i64 x, .i .i64 4] [] fun v _ => v = .tu [.s (Lv x 4), .ni]) := by
  refine ⟨?_⟩
  rw [vc31_4]
  have k0 : Int.fdiv x ((2 : Int) ^ min (Int.toNat (IntKind.wrap .i64 (8 * IntKind.wrap .i64 (IntKind.wrap .i64 (4 - 1) - 0)))) (IntKind.bits IntKind.i64)) = x / 256 / 256 / 256 := by
    rw [show ((2 : Int) ^ min (Int.toNat (IntKind.wrap .i64 (8 * IntKind.wrap .i64 (IntKind.wrap .i64 (4 - 1) - 0)))) (IntKind.bits IntKind.i64)) = 16777216 from by decide, Int.fdiv_eq_ediv_of_nonneg _ (by decide)]; try omega
  have k1 : Int.fdiv x ((2 : Int) ^ min (Int.toNat (IntKind.wrap .i64 (8 * IntKind.wrap .i64 (IntKind.wrap .i64 (4 - 1) - IntKind.wrap .i64 (0 + 1))))) (IntKind.bits IntKind.i64)) = x / 256 / 256 := by
    rw [show ((2 : Int) ^ min (Int.toNat (IntKind.wrap .i64 (8 * IntKind.wrap .i64 (IntKind.wrap .i64 (4 - 1) - IntKind.wrap .i64 (0 + 1))))) (IntKind.bits IntKind.i64)) = 65536 from by decide, Int.fdiv_eq_ediv_of_nonneg _ (by decide)]; try omega
  have k2 : Int.fdiv x ((2 : Int) ^ min (Int.toNat (IntKind.wrap .i64 (8 * IntKind.wrap .i64 (IntKind.wrap .i64 (4 - 1) - IntKind.wrap .i64 (IntKind.wrap .i64 (0 + 1) + 1))))) (IntKind.bits IntKind.i64)) = x / 256 := by
    rw [show ((2 : Int) ^ min (Int.toNat (IntKind.wrap .i64 (8 * IntKind.wrap .i64 (IntKind.wrap .i64 (4 - 1) - IntKind.wrap .i64 (IntKind.wrap .i64 (0 + 1) + 1))))) (IntKind.bits IntKind.i64)) = 256 from by decide, Int.fdiv_eq_ediv_of_nonneg _ (by decide)]; try omega
  have k3 : Int.fdiv x ((2 : Int) ^ min (Int.toNat (IntKind.wrap .i64 (8 * IntKind.wrap .i64 (IntKind.wrap .i64 (4 - 1) - IntKind.wrap .i64 (IntKind.wrap .i64 (IntKind.wrap .i64 (0 + 1) + 1) + 1))))) (IntKind.bits IntKind.i64)) = x := by
    rw [show ((2 : Int) ^ min (Int.toNat (IntKind.wrap .i64 (8 * IntKind.wrap .i64 (IntKind.wrap .i64 (4 - 1) - IntKind.wrap .i64 (IntKind.wrap .i64 (IntKind.wrap .i64 (0 + 1) + 1) + 1))))) (IntKind.bits IntKind.i64)) = 1 from by decide, Int.fdiv_eq_ediv_of_nonneg _ (by decide)]; try omega
  have eM : IntKind.wrap .i64 (1 * 2 ^ min (Int.toNat (IntKind.wrap .i64 (8 * 4))) (IntKind.bits IntKind.i64)) = 4294967296 := by decide
  rw [eM]
  simp only [k0, k1, k2, k3, wrap8]
  refine br_intro (fun h => ?_) (fun _ => ⟨⟨by decide⟩, br_intro (fun h => ?_) (fun _ => ?_)⟩)
  · have h : x < 0 := by simpa using h
    omega
  · have h : x ≥ 4294967296 := by simpa using h
    omega
  · repeat (refine ⟨⟨by first | decide | (simp; done)⟩, ?_⟩)
    exact ⟨_, ⟨rfl⟩, rfl⟩
theorem run29_4 (x : Int) : wpFn P (tcons 31 (tnum okBig fun x n => .tu [.s (Lv x n), .ni]) tnil) noW noL 0 Go.Proofs.Try.f29 [.i .i64 x, .i .i64 4] [] fun v _ => v = .s (Lw x 4) := by
  rw [vc29_4]
  have eM : IntKind.wrap .i64 (IntKind.wrap .i64 (1 * 2 ^ min (Int.toNat (IntKind.wrap .i64 (8 * 4))) (IntKind.bits IntKind.i64)) - 1) = 4294967295 := by decide
  have hp : (256 : Int) ^ (4 : Int).toNat = 4294967296 := by decide
  rw [eM, and_4]
  refine ⟨⟨by decide⟩, ⟨?_⟩, ?_⟩
  · unfold okBig; rw [hp]; omega
  · unfold Lw Lv; rw [hp]
def okB (x n : Int) : Prop := ok64 x ∧ (n = 1 ∨ n = 2 ∨ n = 4)
def okW (x n : Int) : Prop := ok64 x ∧ okN n
def P4 (A B : List Int) (p l : Int) : ByteArray := textOf (A ++ B) ++ Lw 0 1 ++ Lw p 1 ++ Lw l 2
def P6 (A B : List Int) (p l : Int) : ByteArray := textOf (A ++ B) ++ Lw l 4 ++ Lw 0 3 ++ Lw p 1
theorem map_len {α : Type} {f : Int → α} {A : List Int} {n : Nat} (h : A.length = n) : (A.map f).length = n := by rw [List.length_map, h]
theorem run20 (a0 a1 a2 a3 b0 b1 b2 b3 p l : Int) (hp : ok64 p) (hl : ok64 l) : wpFn P (tcons 29 (tnum okB fun x n => .s (Lw x n)) tnil) W20 noL 0 Go.Proofs.Try.f20 [.ag [.i .u8 a0, .i .u8 a1, .i .u8 a2, .i .u8 a3], .ag [.i .u8 b0, .i .u8 b1, .i .u8 b2, .i .u8 b3], .i .i64 p, .i .i64 l] [] fun v _ => v = .s (P4 [a0, a1, a2, a3] [b0, b1, b2, b3] p l) := by
  rw [vc20]
  refine ⟨⟨by simp⟩, _, ⟨rfl⟩, ⟨by simp⟩, _, ⟨rfl⟩, ⟨by simp only [textOf_size, List.length_cons, List.length_nil]; decide⟩, ?_⟩
  rw [textOf_append]
  refine ⟨⟨by rw [textOf_size]; simp⟩, ⟨hp, by omega⟩, ⟨by rw [ByteArray.size_append, textOf_size, Lw_size]; simp; try decide⟩, ⟨hl, by omega⟩, ⟨by simp only [ByteArray.size_append, textOf_size, Lw_size]; simp; try decide⟩, ?_⟩
  rfl
theorem run22 (a0 a1 a2 a3 a4 a5 a6 a7 a8 a9 a10 a11 a12 a13 a14 a15 b0 b1 b2 b3 b4 b5 b6 b7 b8 b9 b10 b11 b12 b13 b14 b15 p l : Int) (hp : ok64 p) (hl : ok64 l) : wpFn P (tcons 29 (tnum okB fun x n => .s (Lw x n)) tnil) W22 noL 0 Go.Proofs.Try.f22 [.ag [.i .u8 a0, .i .u8 a1, .i .u8 a2, .i .u8 a3, .i .u8 a4, .i .u8 a5, .i .u8 a6, .i .u8 a7, .i .u8 a8, .i .u8 a9, .i .u8 a10, .i .u8 a11, .i .u8 a12, .i .u8 a13, .i .u8 a14, .i .u8 a15], .ag [.i .u8 b0, .i .u8 b1, .i .u8 b2, .i .u8 b3, .i .u8 b4, .i .u8 b5, .i .u8 b6, .i .u8 b7, .i .u8 b8, .i .u8 b9, .i .u8 b10, .i .u8 b11, .i .u8 b12, .i .u8 b13, .i .u8 b14, .i .u8 b15], .i .i64 p, .i .i64 l] [] fun v _ => v = .s (P6 [a0, a1, a2, a3, a4, a5, a6, a7, a8, a9, a10, a11, a12, a13, a14, a15] [b0, b1, b2, b3, b4, b5, b6, b7, b8, b9, b10, b11, b12, b13, b14, b15] p l) := by
  rw [vc22]
  refine ⟨⟨by simp⟩, _, ⟨rfl⟩, ⟨by simp⟩, _, ⟨rfl⟩, ⟨by simp only [textOf_size, List.length_cons, List.length_nil]; decide⟩, ?_⟩
  rw [textOf_append]
  refine ⟨⟨hl, by omega⟩, ⟨by rw [textOf_size, Lw_size]; simp⟩, ⟨by simp only [ByteArray.size_append, textOf_size, Lw_size]; simp⟩, ⟨hp, by omega⟩, ⟨by simp only [ByteArray.size_append, textOf_size, Lw_size]; simp; try decide⟩, ?_⟩
  rfl
theorem ok64_0 : ok64 0 := by unfold ok64; omega
theorem run21 (a0 a1 a2 a3 b0 b1 b2 b3 p l : Int) (hp : ok64 p) (hl : ok64 l) : wpFn P (tcons 30 (tnum okW fun x n => .s (Lw x n)) tnil) noW (headA p l [.i .u8 a0, .i .u8 a1, .i .u8 a2, .i .u8 a3] [.i .u8 b0, .i .u8 b1, .i .u8 b2, .i .u8 b3]) 0 Go.Proofs.Try.f21 [.ag [.i .u8 a0, .i .u8 a1, .i .u8 a2, .i .u8 a3], .ag [.i .u8 b0, .i .u8 b1, .i .u8 b2, .i .u8 b3], .i .i64 p, .i .i64 l] [] fun v _ => v = .s (P4 [a0, a1, a2, a3] [b0, b1, b2, b3] p l) := by
  rw [vc21]
  have rA : [AV.i .u8 a0, AV.i .u8 a1, AV.i .u8 a2, AV.i .u8 a3] = [a0, a1, a2, a3].map (AV.i .u8) := rfl
  have rB : [AV.i .u8 b0, AV.i .u8 b1, AV.i .u8 b2, AV.i .u8 b3] = [b0, b1, b2, b3].map (AV.i .u8) := rfl
  have lA : [a0, a1, a2, a3].length = 4 := rfl
  have lB : [b0, b1, b2, b3].length = 4 := rfl
  rw [rA, rB]
  generalize [a0, a1, a2, a3] = A at lA ⊢
  generalize [b0, b1, b2, b3] = B at lB ⊢
  have fl : ∀ L : List Int, AV.unders 0 (L.map (AV.i .u8)) = true := fun L => unders_map 0 _ (fun _ => rfl) L
  refine ⟨Wk.refl _ _, fun k q => ∃ i : Nat, q = (textOf (A.take i), (i : Int)) ∧ i + k = 4, 4, ⟨0, rfl, by omega⟩, ?_⟩
  rintro q k ⟨i, rfl, hk⟩
  refine br_intro (fun h => ?_) (fun h => ?_)
  · have h : (i : Int) < 4 := by simpa using h
    have hi : i < A.length := by omega
    refine ⟨⟨⟨by show 0 ≤ (i : Int); omega, h⟩⟩, A[i], ⟨?_⟩, ⟨by simp⟩, _, ⟨rfl⟩, ⟨?_⟩, ?_, k - 1, ⟨by omega⟩, i + 1, ?_, by omega⟩
    · show (A.map (AV.i .u8))[0 + Int.toNat (i : Int) * 1]? = _
      rw [Int.toNat_natCast, Nat.mul_one, Nat.zero_add, List.getElem?_map, List.getElem?_eq_getElem hi]; rfl
    · show (textOf (A.take i)).size + _ ≤ _
      rw [textOf_size, textOf_size, List.length_take, lA]; simp; omega
    · exact Wk.rows [0, 1] (by decide) rfl rfl (gcR_two rfl (fl A) rfl (fl B)) (by kernel_rfl)
    · show (textOf (A.take i) ++ textOf [A[i]], IntKind.wrap .i64 ((i : Int) + 1)) = _
      rw [textOf_append, List.take_append_getElem hi, i64w (by omega) (by omega)]; rfl
  · have h : (4 : Int) ≤ i := by simpa using h
    have hA : A.take i = A := List.take_of_length_le (by omega)
    rw [hA]
    refine ⟨Wk.refl _ _, fun k q => ∃ i : Nat, q = (textOf (A ++ B.take i), (i : Int)) ∧ i + k = 4, 4, ⟨0, by simp, by omega⟩, ?_⟩
    rintro q k ⟨i, rfl, hk⟩
    refine br_intro (fun h => ?_) (fun h => ?_)
    · have h : (i : Int) < 4 := by simpa using h
      have hi : i < B.length := by omega
      refine ⟨⟨⟨by show 0 ≤ (i : Int); omega, h⟩⟩, B[i], ⟨?_⟩, ⟨by simp⟩, _, ⟨rfl⟩, ⟨?_⟩, ?_, k - 1, ⟨by omega⟩, i + 1, ?_, by omega⟩
      · show (B.map (AV.i .u8))[0 + Int.toNat (i : Int) * 1]? = _
        rw [Int.toNat_natCast, Nat.mul_one, Nat.zero_add, List.getElem?_map, List.getElem?_eq_getElem hi]; rfl
      · show (textOf (A ++ B.take i)).size + _ ≤ _
        rw [textOf_size, textOf_size, List.length_append, List.length_take, lA, lB]; simp; omega
      · exact Wk.rows [0, 1] (by decide) rfl rfl (gcR_two rfl (fl A) rfl (fl B)) (by kernel_rfl)
      · show (textOf (A ++ B.take i) ++ textOf [B[i]], IntKind.wrap .i64 ((i : Int) + 1)) = _
        rw [textOf_append, List.append_assoc, List.take_append_getElem hi, i64w (by omega) (by omega)]; rfl
    · have h : (4 : Int) ≤ i := by simpa using h
      have hB : B.take i = B := List.take_of_length_le (by omega)
      rw [hB]
      exact ⟨⟨ok64_0, by unfold okN; omega⟩, ⟨by rw [textOf_size, Lw_size, List.length_append, lA, lB]; decide⟩, ⟨hp, by unfold okN; omega⟩, ⟨by simp only [ByteArray.size_append, textOf_size, Lw_size, List.length_append, lA, lB]; decide⟩, ⟨hl, by unfold okN; omega⟩, ⟨by simp only [ByteArray.size_append, textOf_size, Lw_size, List.length_append, lA, lB]; decide⟩, rfl⟩
theorem run23 (a0 a1 a2 a3 a4 a5 a6 a7 a8 a9 a10 a11 a12 a13 a14 a15 b0 b1 b2 b3 b4 b5 b6 b7 b8 b9 b10 b11 b12 b13 b14 b15 p l : Int) (hp : ok64 p) (hl : ok64 l) : wpFn P (tcons 30 (tnum okW fun x n => .s (Lw x n)) tnil) noW (headA p l [.i .u8 a0, .i .u8 a1, .i .u8 a2, .i .u8 a3, .i .u8 a4, .i .u8 a5, .i .u8 a6, .i .u8 a7, .i .u8 a8, .i .u8 a9, .i .u8 a10, .i .u8 a11, .i .u8 a12, .i .u8 a13, .i .u8 a14, .i .u8 a15] [.i .u8 b0, .i .u8 b1, .i .u8 b2, .i .u8 b3, .i .u8 b4, .i .u8 b5, .i .u8 b6, .i .u8 b7, .i .u8 b8, .i .u8 b9, .i .u8 b10, .i .u8 b11, .i .u8 b12, .i .u8 b13, .i .u8 b14, .i .u8 b15]) 0 Go.Proofs.Try.f23 [.ag [.i .u8 a0, .i .u8 a1, .i .u8 a2, .i .u8 a3, .i .u8 a4, .i .u8 a5, .i .u8 a6, .i .u8 a7, .i .u8 a8, .i .u8 a9, .i .u8 a10, .i .u8 a11, .i .u8 a12, .i .u8 a13, .i .u8 a14, .i .u8 a15], .ag [.i .u8 b0, .i .u8 b1, .i .u8 b2, .i .u8 b3, .i .u8 b4, .i .u8 b5, .i .u8 b6, .i .u8 b7, .i .u8 b8, .i .u8 b9, .i .u8 b10, .i .u8 b11, .i .u8 b12, .i .u8 b13, .i .u8 b14, .i .u8 b15], .i .i64 p, .i .i64 l] [] fun v _ => v = .s (P6 [a0, a1, a2, a3, a4, a5, a6, a7, a8, a9, a10, a11, a12, a13, a14, a15] [b0, b1, b2, b3, b4, b5, b6, b7, b8, b9, b10, b11, b12, b13, b14, b15] p l) := by
  rw [vc23]
  have rA : [AV.i .u8 a0, AV.i .u8 a1, AV.i .u8 a2, AV.i .u8 a3, AV.i .u8 a4, AV.i .u8 a5, AV.i .u8 a6, AV.i .u8 a7, AV.i .u8 a8, AV.i .u8 a9, AV.i .u8 a10, AV.i .u8 a11, AV.i .u8 a12, AV.i .u8 a13, AV.i .u8 a14, AV.i .u8 a15] = [a0, a1, a2, a3, a4, a5, a6, a7, a8, a9, a10, a11, a12, a13, a14, a15].map (AV.i .u8) := rfl
  have rB : [AV.i .u8 b0, AV.i .u8 b1, AV.i .u8 b2, AV.i .u8 b3, AV.i .u8 b4, AV.i .u8 b5, AV.i .u8 b6, AV.i .u8 b7, AV.i .u8 b8, AV.i .u8 b9, AV.i .u8 b10, AV.i .u8 b11, AV.i .u8 b12, AV.i .u8 b13, AV.i .u8 b14, AV.i .u8 b15] = [b0, b1, b2, b3, b4, b5, b6, b7, b8, b9, b10, b11, b12, b13, b14, b15].map (AV.i .u8) := rfl
  have lA : [a0, a1, a2, a3, a4, a5, a6, a7, a8, a9, a10, a11, a12, a13, a14, a15].length = 16 := rfl
  have lB : [b0, b1, b2, b3, b4, b5, b6, b7, b8, b9, b10, b11, b12, b13, b14, b15].length = 16 := rfl
  rw [rA, rB]
  generalize [a0, a1, a2, a3, a4, a5, a6, a7, a8, a9, a10, a11, a12, a13, a14, a15] = A at lA ⊢
  generalize [b0, b1, b2, b3, b4, b5, b6, b7, b8, b9, b10, b11, b12, b13, b14, b15] = B at lB ⊢
  have fl : ∀ L : List Int, AV.unders 0 (L.map (AV.i .u8)) = true := fun L => unders_map 0 _ (fun _ => rfl) L
  refine ⟨Wk.refl _ _, fun k q => ∃ i : Nat, q = (textOf (A.take i), (i : Int)) ∧ i + k = 16, 16, ⟨0, rfl, by omega⟩, ?_⟩
  rintro q k ⟨i, rfl, hk⟩
  refine br_intro (fun h => ?_) (fun h => ?_)
  · have h : (i : Int) < 16 := by simpa using h
    have hi : i < A.length := by omega
    refine ⟨⟨⟨by show 0 ≤ (i : Int); omega, h⟩⟩, A[i], ⟨?_⟩, ⟨by simp⟩, _, ⟨rfl⟩, ⟨?_⟩, ?_, k - 1, ⟨by omega⟩, i + 1, ?_, by omega⟩
    · show (A.map (AV.i .u8))[0 + Int.toNat (i : Int) * 1]? = _
      rw [Int.toNat_natCast, Nat.mul_one, Nat.zero_add, List.getElem?_map, List.getElem?_eq_getElem hi]; rfl
    · show (textOf (A.take i)).size + _ ≤ _
      rw [textOf_size, textOf_size, List.length_take, lA]; simp; omega
    · exact Wk.rows [0, 1] (by decide) rfl rfl (gcR_two rfl (fl A) rfl (fl B)) (by kernel_rfl)
    · show (textOf (A.take i) ++ textOf [A[i]], IntKind.wrap .i64 ((i : Int) + 1)) = _
      rw [textOf_append, List.take_append_getElem hi, i64w (by omega) (by omega)]; rfl
  · have h : (16 : Int) ≤ i := by simpa using h
    have hA : A.take i = A := List.take_of_length_le (by omega)
    rw [hA]
    refine ⟨Wk.refl _ _, fun k q => ∃ i : Nat, q = (textOf (A ++ B.take i), (i : Int)) ∧ i + k = 16, 16, ⟨0, by simp, by omega⟩, ?_⟩
    rintro q k ⟨i, rfl, hk⟩
    refine br_intro (fun h => ?_) (fun h => ?_)
    · have h : (i : Int) < 16 := by simpa using h
      have hi : i < B.length := by omega
      refine ⟨⟨⟨by show 0 ≤ (i : Int); omega, h⟩⟩, B[i], ⟨?_⟩, ⟨by simp⟩, _, ⟨rfl⟩, ⟨?_⟩, ?_, k - 1, ⟨by omega⟩, i + 1, ?_, by omega⟩
      · show (B.map (AV.i .u8))[0 + Int.toNat (i : Int) * 1]? = _
        rw [Int.toNat_natCast, Nat.mul_one, Nat.zero_add, List.getElem?_map, List.getElem?_eq_getElem hi]; rfl
      · show (textOf (A ++ B.take i)).size + _ ≤ _
        rw [textOf_size, textOf_size, List.length_append, List.length_take, lA, lB]; simp; omega
      · exact Wk.rows [0, 1] (by decide) rfl rfl (gcR_two rfl (fl A) rfl (fl B)) (by kernel_rfl)
      · show (textOf (A ++ B.take i) ++ textOf [B[i]], IntKind.wrap .i64 ((i : Int) + 1)) = _
        rw [textOf_append, List.append_assoc, List.take_append_getElem hi, i64w (by omega) (by omega)]; rfl
    · have h : (16 : Int) ≤ i := by simpa using h
      have hB : B.take i = B := List.take_of_length_le (by omega)
      rw [hB]
      exact ⟨⟨hl, by unfold okN; omega⟩, ⟨by rw [textOf_size, Lw_size, List.length_append, lA, lB]; decide⟩, ⟨ok64_0, by unfold okN; omega⟩, ⟨by simp only [ByteArray.size_append, textOf_size, Lw_size, List.length_append, lA, lB]; decide⟩, ⟨hp, by unfold okN; omega⟩, ⟨by simp only [ByteArray.size_append, textOf_size, Lw_size, List.length_append, lA, lB]; decide⟩, rfl⟩
theorem run10 (a0 a1 a2 a3 b0 b1 b2 b3 c0 c1 c2 c3 c4 c5 c6 c7 c8 c9 c10 c11 c12 c13 c14 c15 d0 d1 d2 d3 d4 d5 d6 d7 d8 d9 d10 d11 d12 d13 d14 d15 p l : Int) (hp : ok64 p) (hl : ok64 l) : Holds (wpFn P (TH P4 P4 P6 P6) W10 noL 0 Go.Proofs.Try.f10 [.ag [.i .u8 a0, .i .u8 a1, .i .u8 a2, .i .u8 a3], .ag [.i .u8 b0, .i .u8 b1, .i .u8 b2, .i .u8 b3], .ag [.i .u8 c0, .i .u8 c1, .i .u8 c2, .i .u8 c3, .i .u8 c4, .i .u8 c5, .i .u8 c6, .i .u8 c7, .i .u8 c8, .i .u8 c9, .i .u8 c10, .i .u8 c11, .i .u8 c12, .i .u8 c13, .i .u8 c14, .i .u8 c15], .ag [.i .u8 d0, .i .u8 d1, .i .u8 d2, .i .u8 d3, .i .u8 d4, .i .u8 d5, .i .u8 d6, .i .u8 d7, .i .u8 d8, .i .u8 d9, .i .u8 d10, .i .u8 d11, .i .u8 d12, .i .u8 d13, .i .u8 d14, .i .u8 d15], .i .i64 p, .i .i64 l] [] fun v _ => v = .bo true) := by
  refine ⟨?_⟩
  rw [vc10]
  refine ⟨[a0, a1, a2, a3], [b0, b1, b2, b3], ⟨rfl⟩, ⟨rfl⟩, ⟨rfl⟩, ⟨rfl⟩, ⟨hp⟩, ⟨hl⟩, [a0, a1, a2, a3], [b0, b1, b2, b3], ⟨rfl⟩, ⟨rfl⟩, ⟨rfl⟩, ⟨rfl⟩, ⟨hp⟩, ⟨hl⟩, ?_⟩
  rw [beq_self_eq_true, br_true]
  refine ⟨[c0, c1, c2, c3, c4, c5, c6, c7, c8, c9, c10, c11, c12, c13, c14, c15], [d0, d1, d2, d3, d4, d5, d6, d7, d8, d9, d10, d11, d12, d13, d14, d15], ⟨rfl⟩, ⟨rfl⟩, ⟨rfl⟩, ⟨rfl⟩, ⟨hp⟩, ⟨hl⟩, [c0, c1, c2, c3, c4, c5, c6, c7, c8, c9, c10, c11, c12, c13, c14, c15], [d0, d1, d2, d3, d4, d5, d6, d7, d8, d9, d10, d11, d12, d13, d14, d15], ⟨rfl⟩, ⟨rfl⟩, ⟨rfl⟩, ⟨rfl⟩, ⟨hp⟩, ⟨hl⟩, ?_⟩
  rw [beq_self_eq_true]
/-! Contracts -/
theorem ok29 : fnOk1 P noW 29 Go.Proofs.Try.f29 := ⟨Go.Proofs.Try.func29, by kernel_rfl, by kernel_rfl, by kernel_rfl⟩
theorem ok30 : fnOk1 P noW 30 Go.Proofs.Try.f30 := ⟨Go.Proofs.Try.func30, by kernel_rfl, by kernel_rfl, by kernel_rfl⟩
theorem ok31 : fnOk1 P noW 31 Go.Proofs.Try.f31 := ⟨Go.Proofs.Try.func31, by kernel_rfl, by kernel_rfl, by kernel_rfl⟩
theorem ok32 : fnOk1 P noW 32 Go.Proofs.Try.f32 := ⟨Go.Proofs.Try.func32, by kernel_rfl, by kernel_rfl, by kernel_rfl⟩
theorem ok20 : fnOk1 P W20 20 Go.Proofs.Try.f20 := ⟨Go.Proofs.Try.func20, by kernel_rfl, by kernel_rfl, by kernel_rfl⟩
theorem ok21 : fnOk1 P noW 21 Go.Proofs.Try.f21 := ⟨Go.Proofs.Try.func21, by kernel_rfl, by kernel_rfl, by kernel_rfl⟩
theorem ok22 : fnOk1 P W22 22 Go.Proofs.Try.f22 := ⟨Go.Proofs.Try.func22, by kernel_rfl, by kernel_rfl, by kernel_rfl⟩
theorem ok23 : fnOk1 P noW 23 Go.Proofs.Try.f23 := ⟨Go.Proofs.Try.func23, by kernel_rfl, by kernel_rfl, by kernel_rfl⟩
theorem ok10 : fnOk1 P W10 10 Go.Proofs.Try.f10 := ⟨Go.Proofs.Try.func10, by kernel_rfl, by kernel_rfl, by kernel_rfl⟩
abbrev Snum (ok : Int → Int → Prop) (r : Int → Int → AV) : Rel := Splain (fun q : Int × Int => [.i .i64 q.1, .i .i64 q.2]) (fun q => ok q.1 q.2) fun q => r q.1 q.2
theorem tnum_f {ok : Int → Int → Prop} {r : Int → Int → AV} : FollowsF (tnum ok r) (Cof (Snum ok r)) := by
  refine follows_of (Splain.det fun x y h => ?_) fun args h K hk => ?_
  · obtain ⟨a, b⟩ := x
    obtain ⟨a', b'⟩ := y
    simp only [List.cons.injEq, AV.i.injEq, and_true, true_and] at h
    obtain ⟨rfl, rfl⟩ := h
    rfl
  · unfold tnum at hk
    split at hk
    · rename_i x n
      exact ⟨_, _, ⟨rfl, (x, n), rfl, hk.1.out, rfl⟩, hk.2⟩
    · exact hk.elim
theorem s32 : SoundF P 32 (Cof (Snum okPut fun x n => .s (Lv x n))) := SoundF.plainH (follows_nil noEnv) (noEnv_sound P) mo ok32 (fun _ => rfl) (fun _ => rfl) noL fun q hq => by
  obtain ⟨x, n⟩ := q
  dsimp only at hq ⊢
  obtain ⟨h0, h1, h2⟩ := hq
  rcases h2 with h2 | h2 | h2 | h2
  · obtain rfl : n = 1 := h2
    exact run32_1 h0 h1
  · obtain rfl : n = 2 := h2
    exact run32_2 h0 h1
  · obtain rfl : n = 3 := h2
    exact run32_3 h0 h1
  · obtain rfl : n = 4 := h2
    exact run32_4 h0 h1
noncomputable def E32 : Env := with1 32 (Cof (Snum okPut fun x n => .s (Lv x n))) noEnv
theorem E32_s : Sound P E32 := with1_sound ok32.ok s32 (noEnv_sound P)
theorem E32_f : Follows (tcons 32 (tnum okPut fun x n => .s (Lv x n)) tnil) E32 := follows_cons tnum_f (follows_nil _)
theorem s30 : SoundF P 30 (Cof (Snum okW fun x n => .s (Lw x n))) := SoundF.plainH E32_f E32_s mo ok30 (fun _ => rfl) (fun _ => rfl) noL fun q hq => by
  obtain ⟨x, n⟩ := q
  dsimp only at hq ⊢
  obtain ⟨_, h2⟩ := hq
  rcases h2 with h2 | h2 | h2 | h2
  · obtain rfl : n = 1 := h2
    exact run30_1 x
  · obtain rfl : n = 2 := h2
    exact run30_2 x
  · obtain rfl : n = 3 := h2
    exact run30_3 x
  · obtain rfl : n = 4 := h2
    exact run30_4 x
theorem s31 : SoundF P 31 (Cof (Snum okBig fun x n => .tu [.s (Lv x n), .ni])) := SoundF.plainH (follows_nil noEnv) (noEnv_sound P) mo ok31 (fun _ => rfl) (fun _ => rfl) noL fun q hq => by
  obtain ⟨x, n⟩ := q
  dsimp only at hq ⊢
  obtain ⟨h2, h0, h1⟩ := hq
  rcases h2 with h2 | h2 | h2
  · obtain rfl : n = 1 := h2
    exact run31_1 h0 (by simpa using h1)
  · obtain rfl : n = 2 := h2
    exact run31_2 h0 (by simpa using h1)
  · obtain rfl : n = 4 := h2
    exact run31_4 h0 (by simpa using h1)
noncomputable def E31 : Env := with1 31 (Cof (Snum okBig fun x n => .tu [.s (Lv x n), .ni])) noEnv
theorem E31_s : Sound P E31 := with1_sound ok31.ok s31 (noEnv_sound P)
theorem E31_f : Follows (tcons 31 (tnum okBig fun x n => .tu [.s (Lv x n), .ni]) tnil) E31 := follows_cons tnum_f (follows_nil _)
theorem s29 : SoundF P 29 (Cof (Snum okB fun x n => .s (Lw x n))) := SoundF.plain E31_f E31_s mo ok29 (fun _ => rfl) (fun _ => rfl) fun q hq => ⟨noL, 0, by
  obtain ⟨x, n⟩ := q
  dsimp only at hq ⊢
  obtain ⟨_, h2⟩ := hq
  rcases h2 with h2 | h2 | h2
  · obtain rfl : n = 1 := h2
    exact run29_1 x
  · obtain rfl : n = 2 := h2
    exact run29_2 x
  · obtain rfl : n = 4 := h2
    exact run29_4 x⟩
noncomputable def E29 : Env := with1 29 (Cof (Snum okB fun x n => .s (Lw x n))) noEnv
theorem E29_s : Sound P E29 := with1_sound ok29.ok s29 (noEnv_sound P)
theorem E29_f : Follows (tcons 29 (tnum okB fun x n => .s (Lw x n)) tnil) E29 := follows_cons tnum_f (follows_nil _)
noncomputable def E30 : Env := with1 30 (Cof (Snum okW fun x n => .s (Lw x n))) noEnv
theorem E30_s : Sound P E30 := with1_sound ok30.ok s30 (noEnv_sound P)
theorem E30_f : Follows (tcons 30 (tnum okW fun x n => .s (Lw x n)) tnil) E30 := follows_cons tnum_f (follows_nil _)
def mkA (q : List Int × List Int × Int × Int) : List AV := [.ag (q.1.map (.i .u8)), .ag (q.2.1.map (.i .u8)), .i .i64 q.2.2.1, .i .i64 q.2.2.2]
def Saddr (n : Nat) (r : List Int → List Int → Int → Int → ByteArray) : Rel := Splain mkA (fun q => q.1.length = n ∧ q.2.1.length = n ∧ ok64 q.2.2.1 ∧ ok64 q.2.2.2) fun q => .s (r q.1 q.2.1 q.2.2.1 q.2.2.2)
theorem u8_inj : ∀ x y : Int, AV.i .u8 x = AV.i .u8 y → x = y := fun _ _ h => by simpa using h
theorem taddr_f {n : Nat} {r : List Int → List Int → Int → Int → ByteArray} : FollowsF (taddr n r) (Cof (Saddr n r)) := by
  refine follows_of (Splain.det fun x y h => ?_) fun args h K hk => ?_
  · obtain ⟨a, b, c, d⟩ := x
    obtain ⟨a', b', c', d'⟩ := y
    simp only [mkA, List.cons.injEq, AV.i.injEq, AV.ag.injEq, and_true, true_and] at h
    obtain ⟨h1, h2, rfl, rfl⟩ := h
    rw [map_inj u8_inj h1, map_inj u8_inj h2]
  · unfold taddr at hk
    split at hk
    · rename_i xs ys p l
      obtain ⟨A, B, ⟨rfl⟩, ⟨rfl⟩, h3, h4, h5, h6, h7⟩ := hk
      exact ⟨_, _, ⟨rfl, (A, B, p, l), rfl, ⟨h3.out, h4.out, h5.out, h6.out⟩, rfl⟩, h7⟩
    · exact hk.elim
theorem mkA_flat (q : List Int × List Int × Int × Int) : AV.unders 0 (mkA q) = true := by
  simp only [mkA, AV.unders, AV.under, Bool.and_true, Bool.true_and]
  rw [unders_map 0 _ (fun _ => rfl), unders_map 0 _ (fun _ => rfl)]; rfl
theorem four {A : List Int} (h : A.length = 4) : ∃ a0 a1 a2 a3, A = [a0, a1, a2, a3] := by
  match A, h with
  | [a0, a1, a2, a3], _ => exact ⟨a0, a1, a2, a3, rfl⟩
theorem sixteen {A : List Int} (h : A.length = 16) : ∃ a0 a1 a2 a3 a4 a5 a6 a7 a8 a9 a10 a11 a12 a13 a14 a15, A = [a0, a1, a2, a3, a4, a5, a6, a7, a8, a9, a10, a11, a12, a13, a14, a15] := by
  match A, h with
  | [a0, a1, a2, a3, a4, a5, a6, a7, a8, a9, a10, a11, a12, a13, a14, a15], _ => exact ⟨a0, a1, a2, a3, a4, a5, a6, a7, a8, a9, a10, a11, a12, a13, a14, a15, rfl⟩
theorem s20 : SoundF P 20 (Cof (Saddr 4 P4)) := SoundF.plain E29_f E29_s mo ok20 mkA_flat (fun _ => rfl) fun q hq => by
  obtain ⟨A, B, p, l⟩ := q
  obtain ⟨h1, h2, h3, h4⟩ := hq
  obtain ⟨a0, a1, a2, a3, rfl⟩ := four h1
  obtain ⟨b0, b1, b2, b3, rfl⟩ := four h2
  exact ⟨noL, 0, run20 a0 a1 a2 a3 b0 b1 b2 b3 p l h3 h4⟩
theorem s21 : SoundF P 21 (Cof (Saddr 4 P4)) := SoundF.plain E30_f E30_s mo ok21 mkA_flat (fun _ => rfl) fun q hq => by
  obtain ⟨A, B, p, l⟩ := q
  obtain ⟨h1, h2, h3, h4⟩ := hq
  obtain ⟨a0, a1, a2, a3, rfl⟩ := four h1
  obtain ⟨b0, b1, b2, b3, rfl⟩ := four h2
  exact ⟨_, 0, run21 a0 a1 a2 a3 b0 b1 b2 b3 p l h3 h4⟩
theorem s22 : SoundF P 22 (Cof (Saddr 16 P6)) := SoundF.plain E29_f E29_s mo ok22 mkA_flat (fun _ => rfl) fun q hq => by
  obtain ⟨A, B, p, l⟩ := q
  obtain ⟨h1, h2, h3, h4⟩ := hq
  obtain ⟨a0, a1, a2, a3, a4, a5, a6, a7, a8, a9, a10, a11, a12, a13, a14, a15, rfl⟩ := sixteen h1
  obtain ⟨b0, b1, b2, b3, b4, b5, b6, b7, b8, b9, b10, b11, b12, b13, b14, b15, rfl⟩ := sixteen h2
  exact ⟨noL, 0, run22 a0 a1 a2 a3 a4 a5 a6 a7 a8 a9 a10 a11 a12 a13 a14 a15 b0 b1 b2 b3 b4 b5 b6 b7 b8 b9 b10 b11 b12 b13 b14 b15 p l h3 h4⟩
theorem s23 : SoundF P 23 (Cof (Saddr 16 P6)) := SoundF.plain E30_f E30_s mo ok23 mkA_flat (fun _ => rfl) fun q hq => by
  obtain ⟨A, B, p, l⟩ := q
  obtain ⟨h1, h2, h3, h4⟩ := hq
  obtain ⟨a0, a1, a2, a3, a4, a5, a6, a7, a8, a9, a10, a11, a12, a13, a14, a15, rfl⟩ := sixteen h1
  obtain ⟨b0, b1, b2, b3, b4, b5, b6, b7, b8, b9, b10, b11, b12, b13, b14, b15, rfl⟩ := sixteen h2
  exact ⟨_, 0, run23 a0 a1 a2 a3 a4 a5 a6 a7 a8 a9 a10 a11 a12 a13 a14 a15 b0 b1 b2 b3 b4 b5 b6 b7 b8 b9 b10 b11 b12 b13 b14 b15 p l h3 h4⟩
noncomputable def GH : Env := with1 12 (Cconst (.bo true)) (with1 20 (Cof (Saddr 4 P4)) (with1 21 (Cof (Saddr 4 P4)) (with1 22 (Cof (Saddr 16 P6)) (with1 23 (Cof (Saddr 16 P6)) noEnv))))
theorem GH_s : Sound P GH := with1_sound ok12.ok s12 (with1_sound ok20.ok s20 (with1_sound ok21.ok s21 (with1_sound ok22.ok s22 (with1_sound ok23.ok s23 (noEnv_sound P)))))
theorem GH_f : Follows (TH P4 P4 P6 P6) GH := follows_cons (follows_const _) (follows_cons taddr_f (follows_cons taddr_f (follows_cons taddr_f (follows_cons taddr_f (follows_nil _)))))
end Go.Proofs.Ytjekkpnmpcpgaaa.SumRun
