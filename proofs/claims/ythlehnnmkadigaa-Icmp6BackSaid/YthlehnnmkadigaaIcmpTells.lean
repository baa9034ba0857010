/- What a message tells: the conditions, and that they hold. -/
import Derived.Test.YthlehnnmkadigaaEngU
import Derived.Test.YthlehnnmkadigaaProg
set_option linter.unusedVariables false
set_option linter.unusedSimpArgs false
open Go Go.Proofs.Ythlehnnmkadigaa.Eng Go.RowKit
namespace Go.Proofs.Ythlehnnmkadigaa.IcmpRun
noncomputable abbrev P := Go.Proofs.Try.prog
def noW : Nat → Option Road := fun _ => none
def noL : Nat → Option Head := fun _ => none
def okMsg (k c r : Int) : Prop := 0 ≤ r ∧ r ≤ 4294967295
def ok64 (p : Int) : Prop := -9223372036854775808 ≤ p ∧ p ≤ 9223372036854775807
/-- Echo -/
def techo (E : Int → Int → Int → Int) (A S : Int → Int → Bool) (args : List AV) (h : Hp) (K : AV → Hp → Prop) : Prop := match args with
  | [.ag [.i .i64 k, .i .i64 c, .i .u32 r, .s d]] => Holds (okMsg k c r) ∧ K (.tu [.i .i64 (E k c r), .bo (A k c), .bo (S k c)]) h
  | _ => False
/-- WithId -/
def twith (I : Int → Int → Int) (args : List AV) (h : Hp) (K : AV → Hp → Prop) : Prop := match args with
  | [.ag [.i .i64 k, .i .i64 c, .i .u32 r, .s d], .i .i64 id] => Holds (okMsg k c r) ∧ Holds (ok64 id) ∧ K (.ag [.i .i64 k, .i .i64 c, .i .u32 (I r id), .s d]) h
  | _ => False
/-- Failure -/
def tfail (Fl : Int → Bool) (args : List AV) (h : Hp) (K : AV → Hp → Prop) : Prop := match args with
  | [.ag [.i .i64 k, .i .i64 c, .i .u32 r, .s d]] => Holds (okMsg k c r) ∧ K (.bo (Fl k)) h
  | _ => False
abbrev TM (aw e1 e2 w1 w2 f1 f2 : FuncId) (E : Int → Int → Int → Int) (A S : Int → Int → Bool) (I : Int → Int → Int) (Fl : Int → Bool) : TEnv :=
  tcons aw (tconst (.bo true)) (tcons e1 (techo E A S) (tcons e2 (techo E A S) (tcons w1 (twith I) (tcons w2 (twith I) (tcons f1 (tfail Fl) (tcons f2 (tfail Fl) tnil))))))
def W8 : Nat → Option Road := fun r => match r with
  | 7 => some ⟨some ([], (.pure 0 (.pure 1 (.pure 2 (.pure 3 (.pure 4 (.pure 5 (.pure 6 (.pure 7 (.pure 8 (.pure 9 (.pure 10 (.pure 11 (.pure 12 (.pure 13 (.pure 15 (.pure 18 (.any 14 (.old 17 (.eff 16 (.eff 19 (.pure 20 (.pure 21 (.pure 22 (.any 23 (.old 25 (.eff 24 (.eff 26 (.pure 27 (.pure 28 (.pure 29 .nil))))))))))))))))))))))))))))))), .nil⟩
  | _ => none
def W9 : Nat → Option Road := fun r => match r with
  | 12 => some ⟨some ([], (.pure 0 (.pure 1 (.pure 2 (.pure 3 (.pure 4 (.pure 6 (.any 5 (.old 8 (.eff 7 (.pure 9 (.pure 10 (.pure 11 (.any 12 (.eff 13 (.pure 14 (.pure 15 (.pure 16 .nil)))))))))))))))))), .nil⟩
  | _ => none
def W11 : Nat → Option Road := fun r => match r with
  | 7 => some ⟨some ([], (.pure 0 (.pure 1 (.pure 2 (.pure 3 (.pure 4 (.pure 5 (.pure 6 (.pure 7 (.pure 8 (.pure 9 (.pure 10 (.pure 11 (.pure 12 (.pure 13 (.pure 15 (.pure 18 (.any 14 (.old 17 (.eff 16 (.eff 19 (.pure 20 (.pure 21 (.pure 22 (.any 23 (.old 25 (.eff 24 (.eff 26 (.pure 27 (.pure 28 (.pure 29 .nil))))))))))))))))))))))))))))))), .nil⟩
  | _ => none
def W12 : Nat → Option Road := fun r => match r with
  | 12 => some ⟨some ([], (.pure 0 (.pure 1 (.pure 2 (.pure 3 (.pure 4 (.pure 6 (.any 5 (.old 8 (.eff 7 (.pure 9 (.pure 10 (.pure 11 (.any 12 (.eff 13 (.pure 14 (.pure 15 (.pure 16 .nil)))))))))))))))))), .nil⟩
  | _ => none
theorem vc32 (k c r : Int) (d : ByteArray) (R : AV → Hp → Prop) : (wpFn P tnil noW noL 0 Go.Proofs.Try.f32 [.ag [.i .i64 k, .i .i64 c, .i .u32 r, .s d]] [] R) = (∃ (n : Int), Holds ([AV.i IntKind.i64 k, AV.i IntKind.i64 c, AV.i IntKind.u32 r, AV.s d][(1 : Nat)]? = some (AV.i IntKind.i64 n)) ∧ br (n != (0 : Int)) (R (AV.tu [AV.i IntKind.i64 (0 : Int), AV.bo false, AV.bo false]) [Blk.cells [AV.i IntKind.i64 k, AV.i IntKind.i64 c, AV.i IntKind.u32 r, AV.s d] true]) (∃ (n : Int), Holds ([AV.i IntKind.i64 k, AV.i IntKind.i64 c, AV.i IntKind.u32 r, AV.s d][(0 : Nat)]? = some (AV.i IntKind.i64 n)) ∧ br (n != (8 : Int)) (∃ (n : Int), Holds ([AV.i IntKind.i64 k, AV.i IntKind.i64 c, AV.i IntKind.u32 r, AV.s d][(0 : Nat)]? = some (AV.i IntKind.i64 n)) ∧ br (n != (0 : Int)) (R (AV.tu [AV.i IntKind.i64 (0 : Int), AV.bo false, AV.bo false]) [Blk.cells [AV.i IntKind.i64 k, AV.i IntKind.i64 c, AV.i IntKind.u32 r, AV.s d] true]) (∃ (n : Int), Holds ([AV.i IntKind.i64 k, AV.i IntKind.i64 c, AV.i IntKind.u32 r, AV.s d][(2 : Nat)]? = some (AV.i IntKind.u32 n)) ∧ ∃ (n_1 : Int), Holds ([AV.i IntKind.i64 k, AV.i IntKind.i64 c, AV.i IntKind.u32 r, AV.s d][(0 : Nat)]? = some (AV.i IntKind.i64 n_1)) ∧ R (AV.tu [AV.i IntKind.i64 (IntKind.wrap IntKind.i64 (Int.fdiv n ((2 : Int) ^ min (Int.toNat (16 : Int)) (IntKind.bits IntKind.u32)))), AV.bo (n_1 == (8 : Int)), AV.bo true]) [Blk.cells [AV.i IntKind.i64 k, AV.i IntKind.i64 c, AV.i IntKind.u32 r, AV.s d] true])) (∃ (n : Int), Holds ([AV.i IntKind.i64 k, AV.i IntKind.i64 c, AV.i IntKind.u32 r, AV.s d][(2 : Nat)]? = some (AV.i IntKind.u32 n)) ∧ ∃ (n_1 : Int), Holds ([AV.i IntKind.i64 k, AV.i IntKind.i64 c, AV.i IntKind.u32 r, AV.s d][(0 : Nat)]? = some (AV.i IntKind.i64 n_1)) ∧ R (AV.tu [AV.i IntKind.i64 (IntKind.wrap IntKind.i64 (Int.fdiv n ((2 : Int) ^ min (Int.toNat (16 : Int)) (IntKind.bits IntKind.u32)))), AV.bo (n_1 == (8 : Int)), AV.bo true]) [Blk.cells [AV.i IntKind.i64 k, AV.i IntKind.i64 c, AV.i IntKind.u32 r, AV.s d] true]))) := by kernel_rfl
theorem vc36 (k c r : Int) (d : ByteArray) (R : AV → Hp → Prop) : (wpFn P tnil noW noL 0 Go.Proofs.Try.f36 [.ag [.i .i64 k, .i .i64 c, .i .u32 r, .s d]] [] R) = (∃ (n : Int), Holds ([AV.i IntKind.i64 k, AV.i IntKind.i64 c, AV.i IntKind.u32 r, AV.s d][(1 : Nat)]? = some (AV.i IntKind.i64 n)) ∧ br (n == (0 : Int)) (∃ (n : Int), Holds ([AV.i IntKind.i64 k, AV.i IntKind.i64 c, AV.i IntKind.u32 r, AV.s d][(0 : Nat)]? = some (AV.i IntKind.i64 n)) ∧ br (n == (8 : Int)) (∃ (n : Int), Holds ([AV.i IntKind.i64 k, AV.i IntKind.i64 c, AV.i IntKind.u32 r, AV.s d][(2 : Nat)]? = some (AV.i IntKind.u32 n)) ∧ R (AV.tu [AV.i IntKind.i64 (IntKind.wrap IntKind.i64 (IntKind.wrap IntKind.u32 (Int.tdiv n (65536 : Int)))), AV.bo true, AV.bo true]) [Blk.cells [AV.i IntKind.i64 k, AV.i IntKind.i64 c, AV.i IntKind.u32 r, AV.s d] true]) (∃ (n : Int), Holds ([AV.i IntKind.i64 k, AV.i IntKind.i64 c, AV.i IntKind.u32 r, AV.s d][(1 : Nat)]? = some (AV.i IntKind.i64 n)) ∧ br (n == (0 : Int)) (∃ (n : Int), Holds ([AV.i IntKind.i64 k, AV.i IntKind.i64 c, AV.i IntKind.u32 r, AV.s d][(0 : Nat)]? = some (AV.i IntKind.i64 n)) ∧ br (n == (0 : Int)) (∃ (n : Int), Holds ([AV.i IntKind.i64 k, AV.i IntKind.i64 c, AV.i IntKind.u32 r, AV.s d][(2 : Nat)]? = some (AV.i IntKind.u32 n)) ∧ R (AV.tu [AV.i IntKind.i64 (IntKind.wrap IntKind.i64 (IntKind.wrap IntKind.u32 (Int.tdiv n (65536 : Int)))), AV.bo false, AV.bo true]) [Blk.cells [AV.i IntKind.i64 k, AV.i IntKind.i64 c, AV.i IntKind.u32 r, AV.s d] true]) (R (AV.tu [AV.i IntKind.i64 (0 : Int), AV.bo false, AV.bo false]) [Blk.cells [AV.i IntKind.i64 k, AV.i IntKind.i64 c, AV.i IntKind.u32 r, AV.s d] true])) (R (AV.tu [AV.i IntKind.i64 (0 : Int), AV.bo false, AV.bo false]) [Blk.cells [AV.i IntKind.i64 k, AV.i IntKind.i64 c, AV.i IntKind.u32 r, AV.s d] true]))) (∃ (n : Int), Holds ([AV.i IntKind.i64 k, AV.i IntKind.i64 c, AV.i IntKind.u32 r, AV.s d][(1 : Nat)]? = some (AV.i IntKind.i64 n)) ∧ br (n == (0 : Int)) (∃ (n : Int), Holds ([AV.i IntKind.i64 k, AV.i IntKind.i64 c, AV.i IntKind.u32 r, AV.s d][(0 : Nat)]? = some (AV.i IntKind.i64 n)) ∧ br (n == (0 : Int)) (∃ (n : Int), Holds ([AV.i IntKind.i64 k, AV.i IntKind.i64 c, AV.i IntKind.u32 r, AV.s d][(2 : Nat)]? = some (AV.i IntKind.u32 n)) ∧ R (AV.tu [AV.i IntKind.i64 (IntKind.wrap IntKind.i64 (IntKind.wrap IntKind.u32 (Int.tdiv n (65536 : Int)))), AV.bo false, AV.bo true]) [Blk.cells [AV.i IntKind.i64 k, AV.i IntKind.i64 c, AV.i IntKind.u32 r, AV.s d] true]) (R (AV.tu [AV.i IntKind.i64 (0 : Int), AV.bo false, AV.bo false]) [Blk.cells [AV.i IntKind.i64 k, AV.i IntKind.i64 c, AV.i IntKind.u32 r, AV.s d] true])) (R (AV.tu [AV.i IntKind.i64 (0 : Int), AV.bo false, AV.bo false]) [Blk.cells [AV.i IntKind.i64 k, AV.i IntKind.i64 c, AV.i IntKind.u32 r, AV.s d] true]))) := by kernel_rfl
theorem vc35 (k c r : Int) (d : ByteArray) (R : AV → Hp → Prop) : (wpFn P tnil noW noL 0 Go.Proofs.Try.f35 [.ag [.i .i64 k, .i .i64 c, .i .u32 r, .s d]] [] R) = (∃ (n : Int), Holds ([AV.i IntKind.i64 k, AV.i IntKind.i64 c, AV.i IntKind.u32 r, AV.s d][(0 : Nat)]? = some (AV.i IntKind.i64 n)) ∧ br (n == (3 : Int)) (br (n == (3 : Int)) (R (AV.bo true) [Blk.cells [AV.i IntKind.i64 k, AV.i IntKind.i64 c, AV.i IntKind.u32 r, AV.s d] true]) (R (AV.bo false) [Blk.cells [AV.i IntKind.i64 k, AV.i IntKind.i64 c, AV.i IntKind.u32 r, AV.s d] true])) (br (n == (4 : Int)) (br (n == (4 : Int)) (R (AV.bo true) [Blk.cells [AV.i IntKind.i64 k, AV.i IntKind.i64 c, AV.i IntKind.u32 r, AV.s d] true]) (R (AV.bo false) [Blk.cells [AV.i IntKind.i64 k, AV.i IntKind.i64 c, AV.i IntKind.u32 r, AV.s d] true])) (br (n == (5 : Int)) (br (n == (5 : Int)) (R (AV.bo true) [Blk.cells [AV.i IntKind.i64 k, AV.i IntKind.i64 c, AV.i IntKind.u32 r, AV.s d] true]) (R (AV.bo false) [Blk.cells [AV.i IntKind.i64 k, AV.i IntKind.i64 c, AV.i IntKind.u32 r, AV.s d] true])) (br (n == (11 : Int)) (br (n == (11 : Int)) (R (AV.bo true) [Blk.cells [AV.i IntKind.i64 k, AV.i IntKind.i64 c, AV.i IntKind.u32 r, AV.s d] true]) (R (AV.bo false) [Blk.cells [AV.i IntKind.i64 k, AV.i IntKind.i64 c, AV.i IntKind.u32 r, AV.s d] true])) (br (n == (12 : Int)) (R (AV.bo true) [Blk.cells [AV.i IntKind.i64 k, AV.i IntKind.i64 c, AV.i IntKind.u32 r, AV.s d] true]) (R (AV.bo false) [Blk.cells [AV.i IntKind.i64 k, AV.i IntKind.i64 c, AV.i IntKind.u32 r, AV.s d] true])))))) := by kernel_rfl
theorem vc38 (k c r : Int) (d : ByteArray) (R : AV → Hp → Prop) : (wpFn P tnil noW noL 0 Go.Proofs.Try.f38 [.ag [.i .i64 k, .i .i64 c, .i .u32 r, .s d]] [] R) = (∃ (n : Int), Holds ([AV.i IntKind.i64 k, AV.i IntKind.i64 c, AV.i IntKind.u32 r, AV.s d][(0 : Nat)]? = some (AV.i IntKind.i64 n)) ∧ br (n == (3 : Int)) (R (AV.bo true) [Blk.cells [AV.i IntKind.i64 k, AV.i IntKind.i64 c, AV.i IntKind.u32 r, AV.s d] true]) (∃ (n : Int), Holds ([AV.i IntKind.i64 k, AV.i IntKind.i64 c, AV.i IntKind.u32 r, AV.s d][(0 : Nat)]? = some (AV.i IntKind.i64 n)) ∧ br (n == (4 : Int)) (R (AV.bo true) [Blk.cells [AV.i IntKind.i64 k, AV.i IntKind.i64 c, AV.i IntKind.u32 r, AV.s d] true]) (∃ (n : Int), Holds ([AV.i IntKind.i64 k, AV.i IntKind.i64 c, AV.i IntKind.u32 r, AV.s d][(0 : Nat)]? = some (AV.i IntKind.i64 n)) ∧ br (n == (5 : Int)) (R (AV.bo true) [Blk.cells [AV.i IntKind.i64 k, AV.i IntKind.i64 c, AV.i IntKind.u32 r, AV.s d] true]) (∃ (n : Int), Holds ([AV.i IntKind.i64 k, AV.i IntKind.i64 c, AV.i IntKind.u32 r, AV.s d][(0 : Nat)]? = some (AV.i IntKind.i64 n)) ∧ br (n == (11 : Int)) (R (AV.bo true) [Blk.cells [AV.i IntKind.i64 k, AV.i IntKind.i64 c, AV.i IntKind.u32 r, AV.s d] true]) (∃ (n : Int), Holds ([AV.i IntKind.i64 k, AV.i IntKind.i64 c, AV.i IntKind.u32 r, AV.s d][(0 : Nat)]? = some (AV.i IntKind.i64 n)) ∧ R (AV.bo (n == (12 : Int))) [Blk.cells [AV.i IntKind.i64 k, AV.i IntKind.i64 c, AV.i IntKind.u32 r, AV.s d] true]))))) := by kernel_rfl
theorem vc34 (k c r id : Int) (d : ByteArray) (R : AV → Hp → Prop) : (wpFn P tnil noW noL 0 Go.Proofs.Try.f34 [.ag [.i .i64 k, .i .i64 c, .i .u32 r, .s d], .i .i64 id] [] R) = (∃ (n : Int), Holds ([AV.i IntKind.i64 k, AV.i IntKind.i64 c, AV.i IntKind.u32 r, AV.s d][(2 : Nat)]? = some (AV.i IntKind.u32 n)) ∧ Holds ((3 : Nat) ≤ List.length [AV.i IntKind.i64 k, AV.i IntKind.i64 c, AV.i IntKind.u32 r, AV.s d]) ∧ Holds ((4 : Nat) ≤ List.length [AV.i IntKind.i64 (0 : Int), AV.i IntKind.i64 (0 : Int), AV.i IntKind.u32 (0 : Int), AV.s { data := #[] }]) ∧ R (AV.ag [AV.i IntKind.i64 k, AV.i IntKind.i64 c, AV.i IntKind.u32 (bits BinOp.or IntKind.u32 (IntKind.wrap IntKind.u32 (IntKind.wrap IntKind.u32 (bits BinOp.and IntKind.i64 id (65535 : Int)) * (2 : Int) ^ min (Int.toNat (16 : Int)) (IntKind.bits IntKind.u32))) (bits BinOp.and IntKind.u32 n (65535 : Int))), AV.s d]) [Blk.cells [AV.i IntKind.i64 k, AV.i IntKind.i64 c, AV.i IntKind.u32 (bits BinOp.or IntKind.u32 (IntKind.wrap IntKind.u32 (IntKind.wrap IntKind.u32 (bits BinOp.and IntKind.i64 id (65535 : Int)) * (2 : Int) ^ min (Int.toNat (16 : Int)) (IntKind.bits IntKind.u32))) (bits BinOp.and IntKind.u32 n (65535 : Int))), AV.s d] true, Blk.cells [AV.i IntKind.i64 k, AV.i IntKind.i64 c, AV.i IntKind.u32 (bits BinOp.or IntKind.u32 (IntKind.wrap IntKind.u32 (IntKind.wrap IntKind.u32 (bits BinOp.and IntKind.i64 id (65535 : Int)) * (2 : Int) ^ min (Int.toNat (16 : Int)) (IntKind.bits IntKind.u32))) (bits BinOp.and IntKind.u32 n (65535 : Int))), AV.s d] true]) := by kernel_rfl
theorem vc37 (k c r id : Int) (d : ByteArray) (R : AV → Hp → Prop) : (wpFn P tnil noW noL 0 Go.Proofs.Try.f37 [.ag [.i .i64 k, .i .i64 c, .i .u32 r, .s d], .i .i64 id] [] R) = (br (decide (Int.tmod id (65536 : Int) < (0 : Int))) (∃ (n : Int), Holds ([AV.i IntKind.i64 k, AV.i IntKind.i64 c, AV.i IntKind.u32 r, AV.s d][(2 : Nat)]? = some (AV.i IntKind.u32 n)) ∧ Holds ((3 : Nat) ≤ List.length [AV.i IntKind.i64 k, AV.i IntKind.i64 c, AV.i IntKind.u32 r, AV.s d]) ∧ Holds ((4 : Nat) ≤ List.length [AV.i IntKind.i64 (0 : Int), AV.i IntKind.i64 (0 : Int), AV.i IntKind.u32 (0 : Int), AV.s { data := #[] }]) ∧ R (AV.ag [AV.i IntKind.i64 k, AV.i IntKind.i64 c, AV.i IntKind.u32 (IntKind.wrap IntKind.u32 (IntKind.wrap IntKind.u32 (IntKind.wrap IntKind.u32 (IntKind.wrap IntKind.i64 (Int.tmod id (65536 : Int) + (65536 : Int))) * (65536 : Int)) + Int.tmod n (65536 : Int))), AV.s d]) [Blk.cells [AV.i IntKind.i64 k, AV.i IntKind.i64 c, AV.i IntKind.u32 (IntKind.wrap IntKind.u32 (IntKind.wrap IntKind.u32 (IntKind.wrap IntKind.u32 (IntKind.wrap IntKind.i64 (Int.tmod id (65536 : Int) + (65536 : Int))) * (65536 : Int)) + Int.tmod n (65536 : Int))), AV.s d] true, Blk.cells [AV.i IntKind.i64 k, AV.i IntKind.i64 c, AV.i IntKind.u32 (IntKind.wrap IntKind.u32 (IntKind.wrap IntKind.u32 (IntKind.wrap IntKind.u32 (IntKind.wrap IntKind.i64 (Int.tmod id (65536 : Int) + (65536 : Int))) * (65536 : Int)) + Int.tmod n (65536 : Int))), AV.s d] true]) (∃ (n : Int), Holds ([AV.i IntKind.i64 k, AV.i IntKind.i64 c, AV.i IntKind.u32 r, AV.s d][(2 : Nat)]? = some (AV.i IntKind.u32 n)) ∧ Holds ((3 : Nat) ≤ List.length [AV.i IntKind.i64 k, AV.i IntKind.i64 c, AV.i IntKind.u32 r, AV.s d]) ∧ Holds ((4 : Nat) ≤ List.length [AV.i IntKind.i64 (0 : Int), AV.i IntKind.i64 (0 : Int), AV.i IntKind.u32 (0 : Int), AV.s { data := #[] }]) ∧ R (AV.ag [AV.i IntKind.i64 k, AV.i IntKind.i64 c, AV.i IntKind.u32 (IntKind.wrap IntKind.u32 (IntKind.wrap IntKind.u32 (IntKind.wrap IntKind.u32 (Int.tmod id (65536 : Int)) * (65536 : Int)) + Int.tmod n (65536 : Int))), AV.s d]) [Blk.cells [AV.i IntKind.i64 k, AV.i IntKind.i64 c, AV.i IntKind.u32 (IntKind.wrap IntKind.u32 (IntKind.wrap IntKind.u32 (IntKind.wrap IntKind.u32 (Int.tmod id (65536 : Int)) * (65536 : Int)) + Int.tmod n (65536 : Int))), AV.s d] true, Blk.cells [AV.i IntKind.i64 k, AV.i IntKind.i64 c, AV.i IntKind.u32 (IntKind.wrap IntKind.u32 (IntKind.wrap IntKind.u32 (IntKind.wrap IntKind.u32 (Int.tmod id (65536 : Int)) * (65536 : Int)) + Int.tmod n (65536 : Int))), AV.s d] true])) := by kernel_rfl
theorem vc25 (k c r : Int) (d : ByteArray) (R : AV → Hp → Prop) : (wpFn P tnil noW noL 0 Go.Proofs.Try.f25 [.ag [.i .i64 k, .i .i64 c, .i .u32 r, .s d]] [] R) = (∃ (n : Int), Holds ([AV.i IntKind.i64 k, AV.i IntKind.i64 c, AV.i IntKind.u32 r, AV.s d][(1 : Nat)]? = some (AV.i IntKind.i64 n)) ∧ br (n != (0 : Int)) (R (AV.tu [AV.i IntKind.i64 (0 : Int), AV.bo false, AV.bo false]) [Blk.cells [AV.i IntKind.i64 k, AV.i IntKind.i64 c, AV.i IntKind.u32 r, AV.s d] true]) (∃ (n : Int), Holds ([AV.i IntKind.i64 k, AV.i IntKind.i64 c, AV.i IntKind.u32 r, AV.s d][(0 : Nat)]? = some (AV.i IntKind.i64 n)) ∧ br (n != (128 : Int)) (∃ (n : Int), Holds ([AV.i IntKind.i64 k, AV.i IntKind.i64 c, AV.i IntKind.u32 r, AV.s d][(0 : Nat)]? = some (AV.i IntKind.i64 n)) ∧ br (n != (129 : Int)) (R (AV.tu [AV.i IntKind.i64 (0 : Int), AV.bo false, AV.bo false]) [Blk.cells [AV.i IntKind.i64 k, AV.i IntKind.i64 c, AV.i IntKind.u32 r, AV.s d] true]) (∃ (n : Int), Holds ([AV.i IntKind.i64 k, AV.i IntKind.i64 c, AV.i IntKind.u32 r, AV.s d][(2 : Nat)]? = some (AV.i IntKind.u32 n)) ∧ ∃ (n_1 : Int), Holds ([AV.i IntKind.i64 k, AV.i IntKind.i64 c, AV.i IntKind.u32 r, AV.s d][(0 : Nat)]? = some (AV.i IntKind.i64 n_1)) ∧ R (AV.tu [AV.i IntKind.i64 (IntKind.wrap IntKind.i64 (Int.fdiv n ((2 : Int) ^ min (Int.toNat (16 : Int)) (IntKind.bits IntKind.u32)))), AV.bo (n_1 == (128 : Int)), AV.bo true]) [Blk.cells [AV.i IntKind.i64 k, AV.i IntKind.i64 c, AV.i IntKind.u32 r, AV.s d] true])) (∃ (n : Int), Holds ([AV.i IntKind.i64 k, AV.i IntKind.i64 c, AV.i IntKind.u32 r, AV.s d][(2 : Nat)]? = some (AV.i IntKind.u32 n)) ∧ ∃ (n_1 : Int), Holds ([AV.i IntKind.i64 k, AV.i IntKind.i64 c, AV.i IntKind.u32 r, AV.s d][(0 : Nat)]? = some (AV.i IntKind.i64 n_1)) ∧ R (AV.tu [AV.i IntKind.i64 (IntKind.wrap IntKind.i64 (Int.fdiv n ((2 : Int) ^ min (Int.toNat (16 : Int)) (IntKind.bits IntKind.u32)))), AV.bo (n_1 == (128 : Int)), AV.bo true]) [Blk.cells [AV.i IntKind.i64 k, AV.i IntKind.i64 c, AV.i IntKind.u32 r, AV.s d] true]))) := by kernel_rfl
theorem vc29 (k c r : Int) (d : ByteArray) (R : AV → Hp → Prop) : (wpFn P tnil noW noL 0 Go.Proofs.Try.f29 [.ag [.i .i64 k, .i .i64 c, .i .u32 r, .s d]] [] R) = (∃ (n : Int), Holds ([AV.i IntKind.i64 k, AV.i IntKind.i64 c, AV.i IntKind.u32 r, AV.s d][(1 : Nat)]? = some (AV.i IntKind.i64 n)) ∧ br (n == (0 : Int)) (∃ (n : Int), Holds ([AV.i IntKind.i64 k, AV.i IntKind.i64 c, AV.i IntKind.u32 r, AV.s d][(0 : Nat)]? = some (AV.i IntKind.i64 n)) ∧ br (n == (128 : Int)) (∃ (n : Int), Holds ([AV.i IntKind.i64 k, AV.i IntKind.i64 c, AV.i IntKind.u32 r, AV.s d][(2 : Nat)]? = some (AV.i IntKind.u32 n)) ∧ R (AV.tu [AV.i IntKind.i64 (IntKind.wrap IntKind.i64 (IntKind.wrap IntKind.u32 (Int.tdiv n (65536 : Int)))), AV.bo true, AV.bo true]) [Blk.cells [AV.i IntKind.i64 k, AV.i IntKind.i64 c, AV.i IntKind.u32 r, AV.s d] true]) (∃ (n : Int), Holds ([AV.i IntKind.i64 k, AV.i IntKind.i64 c, AV.i IntKind.u32 r, AV.s d][(1 : Nat)]? = some (AV.i IntKind.i64 n)) ∧ br (n == (0 : Int)) (∃ (n : Int), Holds ([AV.i IntKind.i64 k, AV.i IntKind.i64 c, AV.i IntKind.u32 r, AV.s d][(0 : Nat)]? = some (AV.i IntKind.i64 n)) ∧ br (n == (129 : Int)) (∃ (n : Int), Holds ([AV.i IntKind.i64 k, AV.i IntKind.i64 c, AV.i IntKind.u32 r, AV.s d][(2 : Nat)]? = some (AV.i IntKind.u32 n)) ∧ R (AV.tu [AV.i IntKind.i64 (IntKind.wrap IntKind.i64 (IntKind.wrap IntKind.u32 (Int.tdiv n (65536 : Int)))), AV.bo false, AV.bo true]) [Blk.cells [AV.i IntKind.i64 k, AV.i IntKind.i64 c, AV.i IntKind.u32 r, AV.s d] true]) (R (AV.tu [AV.i IntKind.i64 (0 : Int), AV.bo false, AV.bo false]) [Blk.cells [AV.i IntKind.i64 k, AV.i IntKind.i64 c, AV.i IntKind.u32 r, AV.s d] true])) (R (AV.tu [AV.i IntKind.i64 (0 : Int), AV.bo false, AV.bo false]) [Blk.cells [AV.i IntKind.i64 k, AV.i IntKind.i64 c, AV.i IntKind.u32 r, AV.s d] true]))) (∃ (n : Int), Holds ([AV.i IntKind.i64 k, AV.i IntKind.i64 c, AV.i IntKind.u32 r, AV.s d][(1 : Nat)]? = some (AV.i IntKind.i64 n)) ∧ br (n == (0 : Int)) (∃ (n : Int), Holds ([AV.i IntKind.i64 k, AV.i IntKind.i64 c, AV.i IntKind.u32 r, AV.s d][(0 : Nat)]? = some (AV.i IntKind.i64 n)) ∧ br (n == (129 : Int)) (∃ (n : Int), Holds ([AV.i IntKind.i64 k, AV.i IntKind.i64 c, AV.i IntKind.u32 r, AV.s d][(2 : Nat)]? = some (AV.i IntKind.u32 n)) ∧ R (AV.tu [AV.i IntKind.i64 (IntKind.wrap IntKind.i64 (IntKind.wrap IntKind.u32 (Int.tdiv n (65536 : Int)))), AV.bo false, AV.bo true]) [Blk.cells [AV.i IntKind.i64 k, AV.i IntKind.i64 c, AV.i IntKind.u32 r, AV.s d] true]) (R (AV.tu [AV.i IntKind.i64 (0 : Int), AV.bo false, AV.bo false]) [Blk.cells [AV.i IntKind.i64 k, AV.i IntKind.i64 c, AV.i IntKind.u32 r, AV.s d] true])) (R (AV.tu [AV.i IntKind.i64 (0 : Int), AV.bo false, AV.bo false]) [Blk.cells [AV.i IntKind.i64 k, AV.i IntKind.i64 c, AV.i IntKind.u32 r, AV.s d] true]))) := by kernel_rfl
theorem vc27 (k c r id : Int) (d : ByteArray) (R : AV → Hp → Prop) : (wpFn P tnil noW noL 0 Go.Proofs.Try.f27 [.ag [.i .i64 k, .i .i64 c, .i .u32 r, .s d], .i .i64 id] [] R) = (∃ (n : Int), Holds ([AV.i IntKind.i64 k, AV.i IntKind.i64 c, AV.i IntKind.u32 r, AV.s d][(2 : Nat)]? = some (AV.i IntKind.u32 n)) ∧ Holds ((3 : Nat) ≤ List.length [AV.i IntKind.i64 k, AV.i IntKind.i64 c, AV.i IntKind.u32 r, AV.s d]) ∧ Holds ((4 : Nat) ≤ List.length [AV.i IntKind.i64 (0 : Int), AV.i IntKind.i64 (0 : Int), AV.i IntKind.u32 (0 : Int), AV.s { data := #[] }]) ∧ R (AV.ag [AV.i IntKind.i64 k, AV.i IntKind.i64 c, AV.i IntKind.u32 (bits BinOp.or IntKind.u32 (IntKind.wrap IntKind.u32 (IntKind.wrap IntKind.u32 (bits BinOp.and IntKind.i64 id (65535 : Int)) * (2 : Int) ^ min (Int.toNat (16 : Int)) (IntKind.bits IntKind.u32))) (bits BinOp.and IntKind.u32 n (65535 : Int))), AV.s d]) [Blk.cells [AV.i IntKind.i64 k, AV.i IntKind.i64 c, AV.i IntKind.u32 (bits BinOp.or IntKind.u32 (IntKind.wrap IntKind.u32 (IntKind.wrap IntKind.u32 (bits BinOp.and IntKind.i64 id (65535 : Int)) * (2 : Int) ^ min (Int.toNat (16 : Int)) (IntKind.bits IntKind.u32))) (bits BinOp.and IntKind.u32 n (65535 : Int))), AV.s d] true, Blk.cells [AV.i IntKind.i64 k, AV.i IntKind.i64 c, AV.i IntKind.u32 (bits BinOp.or IntKind.u32 (IntKind.wrap IntKind.u32 (IntKind.wrap IntKind.u32 (bits BinOp.and IntKind.i64 id (65535 : Int)) * (2 : Int) ^ min (Int.toNat (16 : Int)) (IntKind.bits IntKind.u32))) (bits BinOp.and IntKind.u32 n (65535 : Int))), AV.s d] true]) := by kernel_rfl
theorem vc28 (k c r : Int) (d : ByteArray) (R : AV → Hp → Prop) : (wpFn P tnil noW noL 0 Go.Proofs.Try.f28 [.ag [.i .i64 k, .i .i64 c, .i .u32 r, .s d]] [] R) = (∃ (n : Int), Holds ([AV.i IntKind.i64 k, AV.i IntKind.i64 c, AV.i IntKind.u32 r, AV.s d][(0 : Nat)]? = some (AV.i IntKind.i64 n)) ∧ br (decide (n ≥ (1 : Int))) (∃ (n : Int), Holds ([AV.i IntKind.i64 k, AV.i IntKind.i64 c, AV.i IntKind.u32 r, AV.s d][(0 : Nat)]? = some (AV.i IntKind.i64 n)) ∧ R (AV.bo (decide (n ≤ (127 : Int)))) [Blk.cells [AV.i IntKind.i64 k, AV.i IntKind.i64 c, AV.i IntKind.u32 r, AV.s d] true]) (R (AV.bo false) [Blk.cells [AV.i IntKind.i64 k, AV.i IntKind.i64 c, AV.i IntKind.u32 r, AV.s d] true])) := by kernel_rfl
theorem vc30 (k c r id : Int) (d : ByteArray) (R : AV → Hp → Prop) : (wpFn P tnil noW noL 0 Go.Proofs.Try.f30 [.ag [.i .i64 k, .i .i64 c, .i .u32 r, .s d], .i .i64 id] [] R) = (br (decide (Int.tmod id (65536 : Int) < (0 : Int))) (∃ (n : Int), Holds ([AV.i IntKind.i64 k, AV.i IntKind.i64 c, AV.i IntKind.u32 r, AV.s d][(2 : Nat)]? = some (AV.i IntKind.u32 n)) ∧ Holds ((3 : Nat) ≤ List.length [AV.i IntKind.i64 k, AV.i IntKind.i64 c, AV.i IntKind.u32 r, AV.s d]) ∧ Holds ((4 : Nat) ≤ List.length [AV.i IntKind.i64 (0 : Int), AV.i IntKind.i64 (0 : Int), AV.i IntKind.u32 (0 : Int), AV.s { data := #[] }]) ∧ R (AV.ag [AV.i IntKind.i64 k, AV.i IntKind.i64 c, AV.i IntKind.u32 (IntKind.wrap IntKind.u32 (IntKind.wrap IntKind.u32 (IntKind.wrap IntKind.u32 (IntKind.wrap IntKind.i64 (Int.tmod id (65536 : Int) + (65536 : Int))) * (65536 : Int)) + Int.tmod n (65536 : Int))), AV.s d]) [Blk.cells [AV.i IntKind.i64 k, AV.i IntKind.i64 c, AV.i IntKind.u32 (IntKind.wrap IntKind.u32 (IntKind.wrap IntKind.u32 (IntKind.wrap IntKind.u32 (IntKind.wrap IntKind.i64 (Int.tmod id (65536 : Int) + (65536 : Int))) * (65536 : Int)) + Int.tmod n (65536 : Int))), AV.s d] true, Blk.cells [AV.i IntKind.i64 k, AV.i IntKind.i64 c, AV.i IntKind.u32 (IntKind.wrap IntKind.u32 (IntKind.wrap IntKind.u32 (IntKind.wrap IntKind.u32 (IntKind.wrap IntKind.i64 (Int.tmod id (65536 : Int) + (65536 : Int))) * (65536 : Int)) + Int.tmod n (65536 : Int))), AV.s d] true]) (∃ (n : Int), Holds ([AV.i IntKind.i64 k, AV.i IntKind.i64 c, AV.i IntKind.u32 r, AV.s d][(2 : Nat)]? = some (AV.i IntKind.u32 n)) ∧ Holds ((3 : Nat) ≤ List.length [AV.i IntKind.i64 k, AV.i IntKind.i64 c, AV.i IntKind.u32 r, AV.s d]) ∧ Holds ((4 : Nat) ≤ List.length [AV.i IntKind.i64 (0 : Int), AV.i IntKind.i64 (0 : Int), AV.i IntKind.u32 (0 : Int), AV.s { data := #[] }]) ∧ R (AV.ag [AV.i IntKind.i64 k, AV.i IntKind.i64 c, AV.i IntKind.u32 (IntKind.wrap IntKind.u32 (IntKind.wrap IntKind.u32 (IntKind.wrap IntKind.u32 (Int.tmod id (65536 : Int)) * (65536 : Int)) + Int.tmod n (65536 : Int))), AV.s d]) [Blk.cells [AV.i IntKind.i64 k, AV.i IntKind.i64 c, AV.i IntKind.u32 (IntKind.wrap IntKind.u32 (IntKind.wrap IntKind.u32 (IntKind.wrap IntKind.u32 (Int.tmod id (65536 : Int)) * (65536 : Int)) + Int.tmod n (65536 : Int))), AV.s d] true, Blk.cells [AV.i IntKind.i64 k, AV.i IntKind.i64 c, AV.i IntKind.u32 (IntKind.wrap IntKind.u32 (IntKind.wrap IntKind.u32 (IntKind.wrap IntKind.u32 (Int.tmod id (65536 : Int)) * (65536 : Int)) + Int.tmod n (65536 : Int))), AV.s d] true])) := by kernel_rfl
theorem vc31 (k c r : Int) (d : ByteArray) (R : AV → Hp → Prop) : (wpFn P tnil noW noL 0 Go.Proofs.Try.f31 [.ag [.i .i64 k, .i .i64 c, .i .u32 r, .s d]] [] R) = (∃ (n : Int), Holds ([AV.i IntKind.i64 k, AV.i IntKind.i64 c, AV.i IntKind.u32 r, AV.s d][(0 : Nat)]? = some (AV.i IntKind.i64 n)) ∧ br (decide (n > (0 : Int))) (∃ (n : Int), Holds ([AV.i IntKind.i64 k, AV.i IntKind.i64 c, AV.i IntKind.u32 r, AV.s d][(0 : Nat)]? = some (AV.i IntKind.i64 n)) ∧ R (AV.bo (decide (n < (128 : Int)))) [Blk.cells [AV.i IntKind.i64 k, AV.i IntKind.i64 c, AV.i IntKind.u32 r, AV.s d] true]) (R (AV.bo false) [Blk.cells [AV.i IntKind.i64 k, AV.i IntKind.i64 c, AV.i IntKind.u32 r, AV.s d] true])) := by kernel_rfl
theorem vc8 (E : Int → Int → Int → Int) (A S : Int → Int → Bool) (I : Int → Int → Int) (Fl : Int → Bool) (k c r id : Int) (d : ByteArray) (R : AV → Hp → Prop) : (wpFn P (TM 19 25 29 27 30 28 31 E A S I Fl) W8 noL 0 Go.Proofs.Try.f8 [.ag [.i .i64 k, .i .i64 c, .i .u32 r, .s d], .i .i64 id] [] R) = (∃ (s : ByteArray), Holds ([AV.i IntKind.i64 k, AV.i IntKind.i64 c, AV.i IntKind.u32 r, AV.s d][(3 : Nat)]? = some (AV.s s)) ∧ br (decide ((↑(ByteArray.size s) : Int) > (3000 : Int))) (R (AV.bo true) [Blk.cells [AV.i IntKind.i64 k, AV.i IntKind.i64 c, AV.i IntKind.u32 r, AV.s d] true]) (Holds (okMsg k c r) ∧ Holds (okMsg k c r) ∧ br (E k c r == E k c r) (br (A k c == A k c) (br (S k c == S k c) (Holds (okMsg k c r) ∧ Holds (ok64 id) ∧ Holds (okMsg k c r) ∧ Holds (ok64 id) ∧ br (k == k) (br (c == c) (br (I r id == I r id) (br (d == d) (Holds (okMsg k c r) ∧ Holds (okMsg k c r) ∧ R (AV.bo (Fl k == Fl k)) [Blk.cells [AV.i IntKind.i64 k, AV.i IntKind.i64 c, AV.i IntKind.u32 r, AV.s d] true]) (R (AV.bo false) [Blk.cells [AV.i IntKind.i64 k, AV.i IntKind.i64 c, AV.i IntKind.u32 r, AV.s d] true])) (R (AV.bo false) [Blk.cells [AV.i IntKind.i64 k, AV.i IntKind.i64 c, AV.i IntKind.u32 r, AV.s d] true])) (R (AV.bo false) [Blk.cells [AV.i IntKind.i64 k, AV.i IntKind.i64 c, AV.i IntKind.u32 r, AV.s d] true])) (R (AV.bo false) [Blk.cells [AV.i IntKind.i64 k, AV.i IntKind.i64 c, AV.i IntKind.u32 r, AV.s d] true])) (R (AV.bo false) [Blk.cells [AV.i IntKind.i64 k, AV.i IntKind.i64 c, AV.i IntKind.u32 r, AV.s d] true])) (R (AV.bo false) [Blk.cells [AV.i IntKind.i64 k, AV.i IntKind.i64 c, AV.i IntKind.u32 r, AV.s d] true])) (R (AV.bo false) [Blk.cells [AV.i IntKind.i64 k, AV.i IntKind.i64 c, AV.i IntKind.u32 r, AV.s d] true]))) := by kernel_rfl
theorem vc9 (E : Int → Int → Int → Int) (A S : Int → Int → Bool) (I : Int → Int → Int) (Fl : Int → Bool) (k c r id : Int) (d : ByteArray) (R : AV → Hp → Prop) : (wpFn P (TM 19 25 29 27 30 28 31 E A S I Fl) W9 noL 0 Go.Proofs.Try.f9 [.ag [.i .i64 k, .i .i64 c, .i .u32 r, .s d], .i .u16 id] [] R) = (∃ (s : ByteArray), Holds ([AV.i IntKind.i64 k, AV.i IntKind.i64 c, AV.i IntKind.u32 r, AV.s d][(3 : Nat)]? = some (AV.s s)) ∧ br (decide ((↑(ByteArray.size s) : Int) > (3000 : Int))) (R (AV.bo true) [Blk.cells [AV.i IntKind.i64 k, AV.i IntKind.i64 c, AV.i IntKind.u32 r, AV.s d] true]) (Holds (okMsg k c r) ∧ Holds (okMsg k c r) ∧ Holds (ok64 (IntKind.wrap IntKind.i64 id)) ∧ Holds ((4 : Nat) ≤ List.length [AV.i IntKind.i64 (0 : Int), AV.i IntKind.i64 (0 : Int), AV.i IntKind.u32 (0 : Int), AV.s { data := #[] }]) ∧ Holds (okMsg k c (I r (IntKind.wrap IntKind.i64 id))) ∧ br (!S k c == S k c) (R (AV.bo false) [Blk.cells [AV.i IntKind.i64 k, AV.i IntKind.i64 c, AV.i IntKind.u32 r, AV.s d] true, Blk.cells [AV.i IntKind.i64 k, AV.i IntKind.i64 c, AV.i IntKind.u32 (I r (IntKind.wrap IntKind.i64 id)), AV.s d] true]) (br (!A k c == A k c) (R (AV.bo false) [Blk.cells [AV.i IntKind.i64 k, AV.i IntKind.i64 c, AV.i IntKind.u32 r, AV.s d] true, Blk.cells [AV.i IntKind.i64 k, AV.i IntKind.i64 c, AV.i IntKind.u32 (I r (IntKind.wrap IntKind.i64 id)), AV.s d] true]) (∃ (n : Int), Holds ([AV.i IntKind.i64 k, AV.i IntKind.i64 c, AV.i IntKind.u32 (I r (IntKind.wrap IntKind.i64 id)), AV.s d][(0 : Nat)]? = some (AV.i IntKind.i64 n)) ∧ ∃ (n_1 : Int), Holds ([AV.i IntKind.i64 k, AV.i IntKind.i64 c, AV.i IntKind.u32 r, AV.s d][(0 : Nat)]? = some (AV.i IntKind.i64 n_1)) ∧ br (n != n_1) (R (AV.bo false) [Blk.cells [AV.i IntKind.i64 k, AV.i IntKind.i64 c, AV.i IntKind.u32 r, AV.s d] true, Blk.cells [AV.i IntKind.i64 k, AV.i IntKind.i64 c, AV.i IntKind.u32 (I r (IntKind.wrap IntKind.i64 id)), AV.s d] true]) (∃ (n : Int), Holds ([AV.i IntKind.i64 k, AV.i IntKind.i64 c, AV.i IntKind.u32 (I r (IntKind.wrap IntKind.i64 id)), AV.s d][(1 : Nat)]? = some (AV.i IntKind.i64 n)) ∧ ∃ (n_2 : Int), Holds ([AV.i IntKind.i64 k, AV.i IntKind.i64 c, AV.i IntKind.u32 r, AV.s d][(1 : Nat)]? = some (AV.i IntKind.i64 n_2)) ∧ br (n != n_2) (R (AV.bo false) [Blk.cells [AV.i IntKind.i64 k, AV.i IntKind.i64 c, AV.i IntKind.u32 r, AV.s d] true, Blk.cells [AV.i IntKind.i64 k, AV.i IntKind.i64 c, AV.i IntKind.u32 (I r (IntKind.wrap IntKind.i64 id)), AV.s d] true]) (∃ (s : ByteArray), Holds ([AV.i IntKind.i64 k, AV.i IntKind.i64 c, AV.i IntKind.u32 (I r (IntKind.wrap IntKind.i64 id)), AV.s d][(3 : Nat)]? = some (AV.s s)) ∧ ∃ (s_1 : ByteArray), Holds ([AV.i IntKind.i64 k, AV.i IntKind.i64 c, AV.i IntKind.u32 r, AV.s d][(3 : Nat)]? = some (AV.s s_1)) ∧ br (!ByteArray.toList s == ByteArray.toList s_1) (R (AV.bo false) [Blk.cells [AV.i IntKind.i64 k, AV.i IntKind.i64 c, AV.i IntKind.u32 r, AV.s d] true, Blk.cells [AV.i IntKind.i64 k, AV.i IntKind.i64 c, AV.i IntKind.u32 (I r (IntKind.wrap IntKind.i64 id)), AV.s d] true]) (∃ (n : Int), Holds ([AV.i IntKind.i64 k, AV.i IntKind.i64 c, AV.i IntKind.u32 (I r (IntKind.wrap IntKind.i64 id)), AV.s d][(2 : Nat)]? = some (AV.i IntKind.u32 n)) ∧ ∃ (n_3 : Int), Holds ([AV.i IntKind.i64 k, AV.i IntKind.i64 c, AV.i IntKind.u32 r, AV.s d][(2 : Nat)]? = some (AV.i IntKind.u32 n_3)) ∧ br (bits BinOp.and IntKind.u32 n (65535 : Int) != bits BinOp.and IntKind.u32 n_3 (65535 : Int)) (R (AV.bo false) [Blk.cells [AV.i IntKind.i64 k, AV.i IntKind.i64 c, AV.i IntKind.u32 r, AV.s d] true, Blk.cells [AV.i IntKind.i64 k, AV.i IntKind.i64 c, AV.i IntKind.u32 (I r (IntKind.wrap IntKind.i64 id)), AV.s d] true]) (∃ (n : Int), Holds ([AV.i IntKind.i64 k, AV.i IntKind.i64 c, AV.i IntKind.u32 (I r (IntKind.wrap IntKind.i64 id)), AV.s d][(2 : Nat)]? = some (AV.i IntKind.u32 n)) ∧ br (Int.fdiv n ((2 : Int) ^ min (Int.toNat (16 : Int)) (IntKind.bits IntKind.u32)) != IntKind.wrap IntKind.u32 id) (R (AV.bo false) [Blk.cells [AV.i IntKind.i64 k, AV.i IntKind.i64 c, AV.i IntKind.u32 r, AV.s d] true, Blk.cells [AV.i IntKind.i64 k, AV.i IntKind.i64 c, AV.i IntKind.u32 (I r (IntKind.wrap IntKind.i64 id)), AV.s d] true]) (br (!S k c) (br (E k c r == (0 : Int)) (br (!A k c) (R (AV.bo (E k c (I r (IntKind.wrap IntKind.i64 id)) == (0 : Int))) [Blk.cells [AV.i IntKind.i64 k, AV.i IntKind.i64 c, AV.i IntKind.u32 r, AV.s d] true, Blk.cells [AV.i IntKind.i64 k, AV.i IntKind.i64 c, AV.i IntKind.u32 (I r (IntKind.wrap IntKind.i64 id)), AV.s d] true]) (R (AV.bo false) [Blk.cells [AV.i IntKind.i64 k, AV.i IntKind.i64 c, AV.i IntKind.u32 r, AV.s d] true, Blk.cells [AV.i IntKind.i64 k, AV.i IntKind.i64 c, AV.i IntKind.u32 (I r (IntKind.wrap IntKind.i64 id)), AV.s d] true])) (R (AV.bo false) [Blk.cells [AV.i IntKind.i64 k, AV.i IntKind.i64 c, AV.i IntKind.u32 r, AV.s d] true, Blk.cells [AV.i IntKind.i64 k, AV.i IntKind.i64 c, AV.i IntKind.u32 (I r (IntKind.wrap IntKind.i64 id)), AV.s d] true])) (br (E k c (I r (IntKind.wrap IntKind.i64 id)) == IntKind.wrap IntKind.i64 id) (Holds (okMsg k c (I r (IntKind.wrap IntKind.i64 id))) ∧ Holds (ok64 (E k c r)) ∧ br (k == k) (br (c == c) (br (I (I r (IntKind.wrap IntKind.i64 id)) (E k c r) == r) (br (d == d) (Holds (okMsg k c r) ∧ R (AV.bo !Fl k) [Blk.cells [AV.i IntKind.i64 k, AV.i IntKind.i64 c, AV.i IntKind.u32 r, AV.s d] true, Blk.cells [AV.i IntKind.i64 k, AV.i IntKind.i64 c, AV.i IntKind.u32 (I r (IntKind.wrap IntKind.i64 id)), AV.s d] true]) (R (AV.bo false) [Blk.cells [AV.i IntKind.i64 k, AV.i IntKind.i64 c, AV.i IntKind.u32 r, AV.s d] true, Blk.cells [AV.i IntKind.i64 k, AV.i IntKind.i64 c, AV.i IntKind.u32 (I r (IntKind.wrap IntKind.i64 id)), AV.s d] true])) (R (AV.bo false) [Blk.cells [AV.i IntKind.i64 k, AV.i IntKind.i64 c, AV.i IntKind.u32 r, AV.s d] true, Blk.cells [AV.i IntKind.i64 k, AV.i IntKind.i64 c, AV.i IntKind.u32 (I r (IntKind.wrap IntKind.i64 id)), AV.s d] true])) (R (AV.bo false) [Blk.cells [AV.i IntKind.i64 k, AV.i IntKind.i64 c, AV.i IntKind.u32 r, AV.s d] true, Blk.cells [AV.i IntKind.i64 k, AV.i IntKind.i64 c, AV.i IntKind.u32 (I r (IntKind.wrap IntKind.i64 id)), AV.s d] true])) (R (AV.bo false) [Blk.cells [AV.i IntKind.i64 k, AV.i IntKind.i64 c, AV.i IntKind.u32 r, AV.s d] true, Blk.cells [AV.i IntKind.i64 k, AV.i IntKind.i64 c, AV.i IntKind.u32 (I r (IntKind.wrap IntKind.i64 id)), AV.s d] true])) (R (AV.bo false) [Blk.cells [AV.i IntKind.i64 k, AV.i IntKind.i64 c, AV.i IntKind.u32 r, AV.s d] true, Blk.cells [AV.i IntKind.i64 k, AV.i IntKind.i64 c, AV.i IntKind.u32 (I r (IntKind.wrap IntKind.i64 id)), AV.s d] true]))))))))))) := by kernel_rfl
theorem vc11 (E : Int → Int → Int → Int) (A S : Int → Int → Bool) (I : Int → Int → Int) (Fl : Int → Bool) (k c r id : Int) (d : ByteArray) (R : AV → Hp → Prop) : (wpFn P (TM 13 32 36 34 37 35 38 E A S I Fl) W11 noL 0 Go.Proofs.Try.f11 [.ag [.i .i64 k, .i .i64 c, .i .u32 r, .s d], .i .i64 id] [] R) = (∃ (s : ByteArray), Holds ([AV.i IntKind.i64 k, AV.i IntKind.i64 c, AV.i IntKind.u32 r, AV.s d][(3 : Nat)]? = some (AV.s s)) ∧ br (decide ((↑(ByteArray.size s) : Int) > (3000 : Int))) (R (AV.bo true) [Blk.cells [AV.i IntKind.i64 k, AV.i IntKind.i64 c, AV.i IntKind.u32 r, AV.s d] true]) (Holds (okMsg k c r) ∧ Holds (okMsg k c r) ∧ br (E k c r == E k c r) (br (A k c == A k c) (br (S k c == S k c) (Holds (okMsg k c r) ∧ Holds (ok64 id) ∧ Holds (okMsg k c r) ∧ Holds (ok64 id) ∧ br (k == k) (br (c == c) (br (I r id == I r id) (br (d == d) (Holds (okMsg k c r) ∧ Holds (okMsg k c r) ∧ R (AV.bo (Fl k == Fl k)) [Blk.cells [AV.i IntKind.i64 k, AV.i IntKind.i64 c, AV.i IntKind.u32 r, AV.s d] true]) (R (AV.bo false) [Blk.cells [AV.i IntKind.i64 k, AV.i IntKind.i64 c, AV.i IntKind.u32 r, AV.s d] true])) (R (AV.bo false) [Blk.cells [AV.i IntKind.i64 k, AV.i IntKind.i64 c, AV.i IntKind.u32 r, AV.s d] true])) (R (AV.bo false) [Blk.cells [AV.i IntKind.i64 k, AV.i IntKind.i64 c, AV.i IntKind.u32 r, AV.s d] true])) (R (AV.bo false) [Blk.cells [AV.i IntKind.i64 k, AV.i IntKind.i64 c, AV.i IntKind.u32 r, AV.s d] true])) (R (AV.bo false) [Blk.cells [AV.i IntKind.i64 k, AV.i IntKind.i64 c, AV.i IntKind.u32 r, AV.s d] true])) (R (AV.bo false) [Blk.cells [AV.i IntKind.i64 k, AV.i IntKind.i64 c, AV.i IntKind.u32 r, AV.s d] true])) (R (AV.bo false) [Blk.cells [AV.i IntKind.i64 k, AV.i IntKind.i64 c, AV.i IntKind.u32 r, AV.s d] true]))) := by kernel_rfl
theorem vc12 (E : Int → Int → Int → Int) (A S : Int → Int → Bool) (I : Int → Int → Int) (Fl : Int → Bool) (k c r id : Int) (d : ByteArray) (R : AV → Hp → Prop) : (wpFn P (TM 13 32 36 34 37 35 38 E A S I Fl) W12 noL 0 Go.Proofs.Try.f12 [.ag [.i .i64 k, .i .i64 c, .i .u32 r, .s d], .i .u16 id] [] R) = (∃ (s : ByteArray), Holds ([AV.i IntKind.i64 k, AV.i IntKind.i64 c, AV.i IntKind.u32 r, AV.s d][(3 : Nat)]? = some (AV.s s)) ∧ br (decide ((↑(ByteArray.size s) : Int) > (3000 : Int))) (R (AV.bo true) [Blk.cells [AV.i IntKind.i64 k, AV.i IntKind.i64 c, AV.i IntKind.u32 r, AV.s d] true]) (Holds (okMsg k c r) ∧ Holds (okMsg k c r) ∧ Holds (ok64 (IntKind.wrap IntKind.i64 id)) ∧ Holds ((4 : Nat) ≤ List.length [AV.i IntKind.i64 (0 : Int), AV.i IntKind.i64 (0 : Int), AV.i IntKind.u32 (0 : Int), AV.s { data := #[] }]) ∧ Holds (okMsg k c (I r (IntKind.wrap IntKind.i64 id))) ∧ br (!S k c == S k c) (R (AV.bo false) [Blk.cells [AV.i IntKind.i64 k, AV.i IntKind.i64 c, AV.i IntKind.u32 r, AV.s d] true, Blk.cells [AV.i IntKind.i64 k, AV.i IntKind.i64 c, AV.i IntKind.u32 (I r (IntKind.wrap IntKind.i64 id)), AV.s d] true]) (br (!A k c == A k c) (R (AV.bo false) [Blk.cells [AV.i IntKind.i64 k, AV.i IntKind.i64 c, AV.i IntKind.u32 r, AV.s d] true, Blk.cells [AV.i IntKind.i64 k, AV.i IntKind.i64 c, AV.i IntKind.u32 (I r (IntKind.wrap IntKind.i64 id)), AV.s d] true]) (∃ (n : Int), Holds ([AV.i IntKind.i64 k, AV.i IntKind.i64 c, AV.i IntKind.u32 (I r (IntKind.wrap IntKind.i64 id)), AV.s d][(0 : Nat)]? = some (AV.i IntKind.i64 n)) ∧ ∃ (n_1 : Int), Holds ([AV.i IntKind.i64 k, AV.i IntKind.i64 c, AV.i IntKind.u32 r, AV.s d][(0 : Nat)]? = some (AV.i IntKind.i64 n_1)) ∧ br (n != n_1) (R (AV.bo false) [Blk.cells [AV.i IntKind.i64 k, AV.i IntKind.i64 c, AV.i IntKind.u32 r, AV.s d] true, Blk.cells [AV.i IntKind.i64 k, AV.i IntKind.i64 c, AV.i IntKind.u32 (I r (IntKind.wrap IntKind.i64 id)), AV.s d] true]) (∃ (n : Int), Holds ([AV.i IntKind.i64 k, AV.i IntKind.i64 c, AV.i IntKind.u32 (I r (IntKind.wrap IntKind.i64 id)), AV.s d][(1 : Nat)]? = some (AV.i IntKind.i64 n)) ∧ ∃ (n_2 : Int), Holds ([AV.i IntKind.i64 k, AV.i IntKind.i64 c, AV.i IntKind.u32 r, AV.s d][(1 : Nat)]? = some (AV.i IntKind.i64 n_2)) ∧ br (n != n_2) (R (AV.bo false) [Blk.cells [AV.i IntKind.i64 k, AV.i IntKind.i64 c, AV.i IntKind.u32 r, AV.s d] true, Blk.cells [AV.i IntKind.i64 k, AV.i IntKind.i64 c, AV.i IntKind.u32 (I r (IntKind.wrap IntKind.i64 id)), AV.s d] true]) (∃ (s : ByteArray), Holds ([AV.i IntKind.i64 k, AV.i IntKind.i64 c, AV.i IntKind.u32 (I r (IntKind.wrap IntKind.i64 id)), AV.s d][(3 : Nat)]? = some (AV.s s)) ∧ ∃ (s_1 : ByteArray), Holds ([AV.i IntKind.i64 k, AV.i IntKind.i64 c, AV.i IntKind.u32 r, AV.s d][(3 : Nat)]? = some (AV.s s_1)) ∧ br (!ByteArray.toList s == ByteArray.toList s_1) (R (AV.bo false) [Blk.cells [AV.i IntKind.i64 k, AV.i IntKind.i64 c, AV.i IntKind.u32 r, AV.s d] true, Blk.cells [AV.i IntKind.i64 k, AV.i IntKind.i64 c, AV.i IntKind.u32 (I r (IntKind.wrap IntKind.i64 id)), AV.s d] true]) (∃ (n : Int), Holds ([AV.i IntKind.i64 k, AV.i IntKind.i64 c, AV.i IntKind.u32 (I r (IntKind.wrap IntKind.i64 id)), AV.s d][(2 : Nat)]? = some (AV.i IntKind.u32 n)) ∧ ∃ (n_3 : Int), Holds ([AV.i IntKind.i64 k, AV.i IntKind.i64 c, AV.i IntKind.u32 r, AV.s d][(2 : Nat)]? = some (AV.i IntKind.u32 n_3)) ∧ br (bits BinOp.and IntKind.u32 n (65535 : Int) != bits BinOp.and IntKind.u32 n_3 (65535 : Int)) (R (AV.bo false) [Blk.cells [AV.i IntKind.i64 k, AV.i IntKind.i64 c, AV.i IntKind.u32 r, AV.s d] true, Blk.cells [AV.i IntKind.i64 k, AV.i IntKind.i64 c, AV.i IntKind.u32 (I r (IntKind.wrap IntKind.i64 id)), AV.s d] true]) (∃ (n : Int), Holds ([AV.i IntKind.i64 k, AV.i IntKind.i64 c, AV.i IntKind.u32 (I r (IntKind.wrap IntKind.i64 id)), AV.s d][(2 : Nat)]? = some (AV.i IntKind.u32 n)) ∧ br (Int.fdiv n ((2 : Int) ^ min (Int.toNat (16 : Int)) (IntKind.bits IntKind.u32)) != IntKind.wrap IntKind.u32 id) (R (AV.bo false) [Blk.cells [AV.i IntKind.i64 k, AV.i IntKind.i64 c, AV.i IntKind.u32 r, AV.s d] true, Blk.cells [AV.i IntKind.i64 k, AV.i IntKind.i64 c, AV.i IntKind.u32 (I r (IntKind.wrap IntKind.i64 id)), AV.s d] true]) (br (!S k c) (br (E k c r == (0 : Int)) (br (!A k c) (R (AV.bo (E k c (I r (IntKind.wrap IntKind.i64 id)) == (0 : Int))) [Blk.cells [AV.i IntKind.i64 k, AV.i IntKind.i64 c, AV.i IntKind.u32 r, AV.s d] true, Blk.cells [AV.i IntKind.i64 k, AV.i IntKind.i64 c, AV.i IntKind.u32 (I r (IntKind.wrap IntKind.i64 id)), AV.s d] true]) (R (AV.bo false) [Blk.cells [AV.i IntKind.i64 k, AV.i IntKind.i64 c, AV.i IntKind.u32 r, AV.s d] true, Blk.cells [AV.i IntKind.i64 k, AV.i IntKind.i64 c, AV.i IntKind.u32 (I r (IntKind.wrap IntKind.i64 id)), AV.s d] true])) (R (AV.bo false) [Blk.cells [AV.i IntKind.i64 k, AV.i IntKind.i64 c, AV.i IntKind.u32 r, AV.s d] true, Blk.cells [AV.i IntKind.i64 k, AV.i IntKind.i64 c, AV.i IntKind.u32 (I r (IntKind.wrap IntKind.i64 id)), AV.s d] true])) (br (E k c (I r (IntKind.wrap IntKind.i64 id)) == IntKind.wrap IntKind.i64 id) (Holds (okMsg k c (I r (IntKind.wrap IntKind.i64 id))) ∧ Holds (ok64 (E k c r)) ∧ br (k == k) (br (c == c) (br (I (I r (IntKind.wrap IntKind.i64 id)) (E k c r) == r) (br (d == d) (Holds (okMsg k c r) ∧ R (AV.bo !Fl k) [Blk.cells [AV.i IntKind.i64 k, AV.i IntKind.i64 c, AV.i IntKind.u32 r, AV.s d] true, Blk.cells [AV.i IntKind.i64 k, AV.i IntKind.i64 c, AV.i IntKind.u32 (I r (IntKind.wrap IntKind.i64 id)), AV.s d] true]) (R (AV.bo false) [Blk.cells [AV.i IntKind.i64 k, AV.i IntKind.i64 c, AV.i IntKind.u32 r, AV.s d] true, Blk.cells [AV.i IntKind.i64 k, AV.i IntKind.i64 c, AV.i IntKind.u32 (I r (IntKind.wrap IntKind.i64 id)), AV.s d] true])) (R (AV.bo false) [Blk.cells [AV.i IntKind.i64 k, AV.i IntKind.i64 c, AV.i IntKind.u32 r, AV.s d] true, Blk.cells [AV.i IntKind.i64 k, AV.i IntKind.i64 c, AV.i IntKind.u32 (I r (IntKind.wrap IntKind.i64 id)), AV.s d] true])) (R (AV.bo false) [Blk.cells [AV.i IntKind.i64 k, AV.i IntKind.i64 c, AV.i IntKind.u32 r, AV.s d] true, Blk.cells [AV.i IntKind.i64 k, AV.i IntKind.i64 c, AV.i IntKind.u32 (I r (IntKind.wrap IntKind.i64 id)), AV.s d] true])) (R (AV.bo false) [Blk.cells [AV.i IntKind.i64 k, AV.i IntKind.i64 c, AV.i IntKind.u32 r, AV.s d] true, Blk.cells [AV.i IntKind.i64 k, AV.i IntKind.i64 c, AV.i IntKind.u32 (I r (IntKind.wrap IntKind.i64 id)), AV.s d] true])) (R (AV.bo false) [Blk.cells [AV.i IntKind.i64 k, AV.i IntKind.i64 c, AV.i IntKind.u32 r, AV.s d] true, Blk.cells [AV.i IntKind.i64 k, AV.i IntKind.i64 c, AV.i IntKind.u32 (I r (IntKind.wrap IntKind.i64 id)), AV.s d] true]))))))))))) := by kernel_rfl
theorem dd (d : ByteArray) : (d == d) = true := (MapKept.bytes_beq d d).2 rfl
theorem i64w {x : Int} (h0 : -9223372036854775808 ≤ x) (h1 : x ≤ 9223372036854775807) : IntKind.wrap .i64 x = x := IntWalk.i64_in _ ⟨by omega, by omega⟩
theorem u32w (x : Int) : IntKind.wrap .u32 x = x % 4294967296 := by simp [IntKind.wrap, IntKind.bits, IntKind.signed]
theorem and64 (x : Int) : Go.bits .and .i64 x 65535 = x % 65536 := by
  unfold Go.bits
  have e : (BitVec.ofInt IntKind.i64.bits x &&& BitVec.ofInt IntKind.i64.bits 65535).toNat = (x % 18446744073709551616).toNat % 65536 := by
    rw [BitVec.toNat_and]
    have h1 : (BitVec.ofInt IntKind.i64.bits x).toNat = (x % 18446744073709551616).toNat := by
      rw [BitVec.toNat_ofInt]; rfl
    have h2 : (BitVec.ofInt IntKind.i64.bits 65535).toNat = 2 ^ 16 - 1 := by rfl
    rw [h1, h2, Nat.and_two_pow_sub_one_eq_mod]
  simp only [e]
  have hw : ∀ m : Nat, m < 65536 → IntKind.i64.wrap (m : Int) = (m : Int) := by
    intro m hm
    exact i64w (by omega) (by omega)
  rw [hw _ (Nat.mod_lt _ (by decide))]; omega
theorem and32 (x : Int) : Go.bits .and .u32 x 65535 = x % 65536 := by
  unfold Go.bits
  have e : (BitVec.ofInt IntKind.u32.bits x &&& BitVec.ofInt IntKind.u32.bits 65535).toNat = (x % 4294967296).toNat % 65536 := by
    rw [BitVec.toNat_and]
    have h1 : (BitVec.ofInt IntKind.u32.bits x).toNat = (x % 4294967296).toNat := by
      rw [BitVec.toNat_ofInt]; rfl
    have h2 : (BitVec.ofInt IntKind.u32.bits 65535).toNat = 2 ^ 16 - 1 := by rfl
    rw [h1, h2, Nat.and_two_pow_sub_one_eq_mod]
  simp only [e]
  rw [u32w]
  have := Nat.mod_lt (x % 4294967296).toNat (show 0 < 65536 by decide)
  omega
theorem or32 {a b : Int} (a0 : 0 ≤ a) (a1 : a < 65536) (b0 : 0 ≤ b) (b1 : b < 65536) : Go.bits .or .u32 (a * 65536) b = a * 65536 + b := by
  unfold Go.bits
  have e : (BitVec.ofInt IntKind.u32.bits (a * 65536) ||| BitVec.ofInt IntKind.u32.bits b).toNat = a.toNat * 65536 + b.toNat := by
    rw [BitVec.toNat_or]
    have h1 : (BitVec.ofInt IntKind.u32.bits (a * 65536)).toNat = a.toNat <<< 16 := by
      rw [BitVec.toNat_ofInt, Nat.shiftLeft_eq]
      show ((a * 65536) % 4294967296).toNat = _
      omega
    have h2 : (BitVec.ofInt IntKind.u32.bits b).toNat = b.toNat := by
      rw [BitVec.toNat_ofInt]
      show (b % 4294967296).toNat = _
      omega
    rw [h1, h2, ← Nat.shiftLeft_add_eq_or_of_lt (show b.toNat < 2 ^ 16 by omega), Nat.shiftLeft_eq]
  simp only [e]
  rw [u32w]; omega
def Sv (q t k c : Int) : Bool := c == 0 && (k == q || k == t)
def Evv (q t k c r : Int) : Int := if Sv q t k c then r / 65536 else 0
def Avv (q t k c : Int) : Bool := c == 0 && k == q
def Iv (r id : Int) : Int := id % 65536 * 65536 + r % 65536
def F4 (k : Int) : Bool := k == 3 || k == 4 || k == 5 || k == 11 || k == 12
def F6 (k : Int) : Bool := decide (1 ≤ k) && decide (k ≤ 127)
theorem echo_eq {q t k c r a : Int} {b s : Bool} (h1 : a = Evv q t k c r) (h2 : b = Avv q t k c) (h3 : s = Sv q t k c) : AV.tu [.i .i64 a, .bo b, .bo s] = AV.tu [.i .i64 (Evv q t k c r), .bo (Avv q t k c), .bo (Sv q t k c)] := by rw [h1, h2, h3]
theorem shr16 {r : Int} (h0 : 0 ≤ r) (h1 : r ≤ 4294967295) : IntKind.wrap .i64 (Int.fdiv r ((2 : Int) ^ min (Int.toNat (16 : Int)) (IntKind.bits IntKind.u32))) = r / 65536 := by
  rw [show ((2 : Int) ^ min (Int.toNat (16 : Int)) (IntKind.bits IntKind.u32)) = 65536 from by decide, Int.fdiv_eq_ediv_of_nonneg _ (by decide), i64w (by omega) (by omega)]
theorem quo16 {r : Int} (h0 : 0 ≤ r) (h1 : r ≤ 4294967295) : IntKind.wrap .i64 (IntKind.wrap .u32 (Int.tdiv r (65536 : Int))) = r / 65536 := by
  rw [Int.tdiv_eq_ediv_of_nonneg h0, u32w, i64w (by omega) (by omega)]; omega
theorem tmod16 (x : Int) : (Int.tmod x 65536 < 0 → Int.tmod x 65536 + 65536 = x % 65536) ∧ (¬ Int.tmod x 65536 < 0 → Int.tmod x 65536 = x % 65536) := by
  by_cases h : 0 ≤ x
  · rw [Int.tmod_eq_emod_of_nonneg h]
    exact ⟨fun h => by omega, fun _ => rfl⟩
  · have e : Int.tmod x 65536 = -((-x) % 65536) := by
      have : x = -(-x) := by omega
      rw [this, Int.neg_tmod, Int.tmod_eq_emod_of_nonneg (by omega)]; simp
    rw [e]
    exact ⟨fun h => by omega, fun h => by omega⟩
theorem run32 {k c r : Int} {d : ByteArray} (hm : okMsg k c r) : wpFn P tnil noW noL 0 Go.Proofs.Try.f32 [.ag [.i .i64 k, .i .i64 c, .i .u32 r, .s d]] [] fun v _ => v = .tu [.i .i64 (Evv 8 0 k c r), .bo (Avv 8 0 k c), .bo (Sv 8 0 k c)] := by
  rw [vc32]
  refine ⟨_, ⟨rfl⟩, br_intro (fun h1 => echo_eq ?_ ?_ ?_) (fun h1 => ⟨_, ⟨rfl⟩, br_intro (fun h2 => ⟨_, ⟨rfl⟩, br_intro (fun h3 => echo_eq ?_ ?_ ?_) (fun h3 => ⟨_, ⟨rfl⟩, _, ⟨rfl⟩, echo_eq (shr16 hm.1 hm.2 |>.trans ?_) ?_ ?_⟩)⟩) (fun h2 => ⟨_, ⟨rfl⟩, _, ⟨rfl⟩, echo_eq (shr16 hm.1 hm.2 |>.trans ?_) ?_ ?_⟩)⟩)⟩
  all_goals (simp_all [Evv, Sv, Avv])
theorem run36 {k c r : Int} {d : ByteArray} (hm : okMsg k c r) : wpFn P tnil noW noL 0 Go.Proofs.Try.f36 [.ag [.i .i64 k, .i .i64 c, .i .u32 r, .s d]] [] fun v _ => v = .tu [.i .i64 (Evv 8 0 k c r), .bo (Avv 8 0 k c), .bo (Sv 8 0 k c)] := by
  rw [vc36]
  have tail : (c = 0 → k ≠ 8) → ∀ hp : Hp, ∃ (n : Int), Holds ([AV.i .i64 k, AV.i .i64 c, AV.i .u32 r, AV.s d][1]? = some (AV.i .i64 n)) ∧ br (n == 0) (∃ (n : Int), Holds ([AV.i .i64 k, AV.i .i64 c, AV.i .u32 r, AV.s d][0]? = some (AV.i .i64 n)) ∧ br (n == 0) (∃ (n : Int), Holds ([AV.i .i64 k, AV.i .i64 c, AV.i .u32 r, AV.s d][2]? = some (AV.i .u32 n)) ∧ AV.tu [.i .i64 (IntKind.wrap .i64 (IntKind.wrap .u32 (Int.tdiv n 65536))), .bo false, .bo true] = AV.tu [.i .i64 (Evv 8 0 k c r), .bo (Avv 8 0 k c), .bo (Sv 8 0 k c)]) (AV.tu [.i .i64 0, .bo false, .bo false] = AV.tu [.i .i64 (Evv 8 0 k c r), .bo (Avv 8 0 k c), .bo (Sv 8 0 k c)])) (AV.tu [.i .i64 0, .bo false, .bo false] = AV.tu [.i .i64 (Evv 8 0 k c r), .bo (Avv 8 0 k c), .bo (Sv 8 0 k c)]) := by
    intro hh hp
    refine ⟨_, ⟨rfl⟩, br_intro (fun h1 => ⟨_, ⟨rfl⟩, br_intro (fun h2 => ⟨_, ⟨rfl⟩, echo_eq (quo16 hm.1 hm.2 |>.trans ?_) ?_ ?_⟩) (fun h2 => echo_eq ?_ ?_ ?_)⟩) (fun h1 => echo_eq ?_ ?_ ?_)⟩
    all_goals (simp_all [Evv, Sv, Avv])
  refine ⟨_, ⟨rfl⟩, br_intro (fun h1 => ⟨_, ⟨rfl⟩, br_intro (fun h2 => ⟨_, ⟨rfl⟩, echo_eq (quo16 hm.1 hm.2 |>.trans ?_) ?_ ?_⟩) (fun h2 => tail (fun _ => by simpa using h2) [])⟩) (fun h1 => tail (fun hc => by simp_all) [])⟩
  all_goals (simp_all [Evv, Sv, Avv])
theorem run34 {k c r id : Int} {d : ByteArray} (hm : okMsg k c r) (hi : ok64 id) : wpFn P tnil noW noL 0 Go.Proofs.Try.f34 [.ag [.i .i64 k, .i .i64 c, .i .u32 r, .s d], .i .i64 id] [] fun v _ => v = .ag [.i .i64 k, .i .i64 c, .i .u32 (Iv r id), .s d] := by
  rw [vc34]
  have e16 : ((2 : Int) ^ min (Int.toNat (16 : Int)) (IntKind.bits IntKind.u32)) = 65536 := by decide
  have hv : Go.bits .or .u32 (IntKind.wrap .u32 (IntKind.wrap .u32 (Go.bits .and .i64 id 65535) * (2 : Int) ^ min (Int.toNat (16 : Int)) (IntKind.bits IntKind.u32))) (Go.bits .and .u32 r 65535) = Iv r id := by
    rw [e16, and64, and32, u32w, u32w]
    have h1 : id % 65536 % 4294967296 = id % 65536 := by omega
    have h2 : id % 65536 * 65536 % 4294967296 = id % 65536 * 65536 := by omega
    rw [h1, h2, or32 (by omega) (by omega) (by omega) (by omega)]; rfl
  refine ⟨_, ⟨rfl⟩, ⟨by simp⟩, ⟨by simp⟩, ?_⟩
  show AV.ag [_, _, AV.i .u32 (Go.bits .or .u32 _ _), _] = _
  rw [hv]
theorem run37 {k c r id : Int} {d : ByteArray} (hm : okMsg k c r) (hi : ok64 id) : wpFn P tnil noW noL 0 Go.Proofs.Try.f37 [.ag [.i .i64 k, .i .i64 c, .i .u32 r, .s d], .i .i64 id] [] fun v _ => v = .ag [.i .i64 k, .i .i64 c, .i .u32 (Iv r id), .s d] := by
  rw [vc37]
  obtain ⟨m0, m1⟩ := hm
  have ht := tmod16 id
  have hr : Int.tmod r 65536 = r % 65536 := Int.tmod_eq_emod_of_nonneg m0
  have hv : ∀ x : Int, x = id % 65536 → IntKind.wrap .u32 (IntKind.wrap .u32 (IntKind.wrap .u32 x * 65536) + Int.tmod r 65536) = Iv r id := by
    rintro x rfl
    rw [hr, u32w, u32w, u32w]; unfold Iv; omega
  refine br_intro (fun h => ?_) (fun h => ?_)
  · have h : Int.tmod id 65536 < 0 := by simpa using h
    have h1 := ht.1 h
    refine ⟨_, ⟨rfl⟩, ⟨by simp⟩, ⟨by simp⟩, ?_⟩
    show AV.ag [_, _, AV.i .u32 (IntKind.wrap .u32 _), _] = _
    rw [hv _ (by rw [i64w (by omega) (by omega)]; exact h1)]
  · have h : ¬ Int.tmod id 65536 < 0 := by simpa using h
    have h1 := ht.2 h
    refine ⟨_, ⟨rfl⟩, ⟨by simp⟩, ⟨by simp⟩, ?_⟩
    show AV.ag [_, _, AV.i .u32 (IntKind.wrap .u32 _), _] = _
    rw [hv _ h1]
theorem bo_eq {a b : Bool} (h : a = b) : AV.bo a = AV.bo b := by rw [h]
theorem run35 {k c r : Int} {d : ByteArray} : wpFn P tnil noW noL 0 Go.Proofs.Try.f35 [.ag [.i .i64 k, .i .i64 c, .i .u32 r, .s d]] [] fun v _ => v = .bo (F4 k) := by
  rw [vc35]
  refine ⟨_, ⟨rfl⟩, br_intro (fun h => br_intro (fun _ => bo_eq ?_) (fun _ => bo_eq ?_)) (fun h => br_intro (fun h => br_intro (fun _ => bo_eq ?_) (fun _ => bo_eq ?_)) (fun h => br_intro (fun h => br_intro (fun _ => bo_eq ?_) (fun _ => bo_eq ?_)) (fun h => br_intro (fun h => br_intro (fun _ => bo_eq ?_) (fun _ => bo_eq ?_)) (fun h => br_intro (fun _ => bo_eq ?_) (fun _ => bo_eq ?_)))))⟩
  all_goals (simp_all [F4])
theorem run38 {k c r : Int} {d : ByteArray} : wpFn P tnil noW noL 0 Go.Proofs.Try.f38 [.ag [.i .i64 k, .i .i64 c, .i .u32 r, .s d]] [] fun v _ => v = .bo (F4 k) := by
  rw [vc38]
  refine ⟨_, ⟨rfl⟩, br_intro (fun h => bo_eq ?_) (fun h => ⟨_, ⟨rfl⟩, br_intro (fun h => bo_eq ?_) (fun h => ⟨_, ⟨rfl⟩, br_intro (fun h => bo_eq ?_) (fun h => ⟨_, ⟨rfl⟩, br_intro (fun h => bo_eq ?_) (fun h => ⟨_, ⟨rfl⟩, bo_eq ?_⟩)⟩)⟩)⟩)⟩
  all_goals (simp_all [F4])
theorem run25 {k c r : Int} {d : ByteArray} (hm : okMsg k c r) : wpFn P tnil noW noL 0 Go.Proofs.Try.f25 [.ag [.i .i64 k, .i .i64 c, .i .u32 r, .s d]] [] fun v _ => v = .tu [.i .i64 (Evv 128 129 k c r), .bo (Avv 128 129 k c), .bo (Sv 128 129 k c)] := by
  rw [vc25]
  refine ⟨_, ⟨rfl⟩, br_intro (fun h1 => echo_eq ?_ ?_ ?_) (fun h1 => ⟨_, ⟨rfl⟩, br_intro (fun h2 => ⟨_, ⟨rfl⟩, br_intro (fun h3 => echo_eq ?_ ?_ ?_) (fun h3 => ⟨_, ⟨rfl⟩, _, ⟨rfl⟩, echo_eq (shr16 hm.1 hm.2 |>.trans ?_) ?_ ?_⟩)⟩) (fun h2 => ⟨_, ⟨rfl⟩, _, ⟨rfl⟩, echo_eq (shr16 hm.1 hm.2 |>.trans ?_) ?_ ?_⟩)⟩)⟩
  all_goals (simp_all [Evv, Sv, Avv])
theorem run29 {k c r : Int} {d : ByteArray} (hm : okMsg k c r) : wpFn P tnil noW noL 0 Go.Proofs.Try.f29 [.ag [.i .i64 k, .i .i64 c, .i .u32 r, .s d]] [] fun v _ => v = .tu [.i .i64 (Evv 128 129 k c r), .bo (Avv 128 129 k c), .bo (Sv 128 129 k c)] := by
  rw [vc29]
  have tail : (c = 0 → k ≠ 128) → ∀ hp : Hp, ∃ (n : Int), Holds ([AV.i .i64 k, AV.i .i64 c, AV.i .u32 r, AV.s d][1]? = some (AV.i .i64 n)) ∧ br (n == 0) (∃ (n : Int), Holds ([AV.i .i64 k, AV.i .i64 c, AV.i .u32 r, AV.s d][0]? = some (AV.i .i64 n)) ∧ br (n == 129) (∃ (n : Int), Holds ([AV.i .i64 k, AV.i .i64 c, AV.i .u32 r, AV.s d][2]? = some (AV.i .u32 n)) ∧ AV.tu [.i .i64 (IntKind.wrap .i64 (IntKind.wrap .u32 (Int.tdiv n 65536))), .bo false, .bo true] = AV.tu [.i .i64 (Evv 128 129 k c r), .bo (Avv 128 129 k c), .bo (Sv 128 129 k c)]) (AV.tu [.i .i64 0, .bo false, .bo false] = AV.tu [.i .i64 (Evv 128 129 k c r), .bo (Avv 128 129 k c), .bo (Sv 128 129 k c)])) (AV.tu [.i .i64 0, .bo false, .bo false] = AV.tu [.i .i64 (Evv 128 129 k c r), .bo (Avv 128 129 k c), .bo (Sv 128 129 k c)]) := by
    intro hh hp
    refine ⟨_, ⟨rfl⟩, br_intro (fun h1 => ⟨_, ⟨rfl⟩, br_intro (fun h2 => ⟨_, ⟨rfl⟩, echo_eq (quo16 hm.1 hm.2 |>.trans ?_) ?_ ?_⟩) (fun h2 => echo_eq ?_ ?_ ?_)⟩) (fun h1 => echo_eq ?_ ?_ ?_)⟩
    all_goals (simp_all [Evv, Sv, Avv])
  refine ⟨_, ⟨rfl⟩, br_intro (fun h1 => ⟨_, ⟨rfl⟩, br_intro (fun h2 => ⟨_, ⟨rfl⟩, echo_eq (quo16 hm.1 hm.2 |>.trans ?_) ?_ ?_⟩) (fun h2 => tail (fun _ => by simpa using h2) [])⟩) (fun h1 => tail (fun hc => by simp_all) [])⟩
  all_goals (simp_all [Evv, Sv, Avv])
theorem run27 {k c r id : Int} {d : ByteArray} (hm : okMsg k c r) (hi : ok64 id) : wpFn P tnil noW noL 0 Go.Proofs.Try.f27 [.ag [.i .i64 k, .i .i64 c, .i .u32 r, .s d], .i .i64 id] [] fun v _ => v = .ag [.i .i64 k, .i .i64 c, .i .u32 (Iv r id), .s d] := by
  rw [vc27]
  have e16 : ((2 : Int) ^ min (Int.toNat (16 : Int)) (IntKind.bits IntKind.u32)) = 65536 := by decide
  have hv : Go.bits .or .u32 (IntKind.wrap .u32 (IntKind.wrap .u32 (Go.bits .and .i64 id 65535) * (2 : Int) ^ min (Int.toNat (16 : Int)) (IntKind.bits IntKind.u32))) (Go.bits .and .u32 r 65535) = Iv r id := by
    rw [e16, and64, and32, u32w, u32w]
    have h1 : id % 65536 % 4294967296 = id % 65536 := by omega
    have h2 : id % 65536 * 65536 % 4294967296 = id % 65536 * 65536 := by omega
    rw [h1, h2, or32 (by omega) (by omega) (by omega) (by omega)]; rfl
  refine ⟨_, ⟨rfl⟩, ⟨by simp⟩, ⟨by simp⟩, ?_⟩
  show AV.ag [_, _, AV.i .u32 (Go.bits .or .u32 _ _), _] = _
  rw [hv]
theorem run30 {k c r id : Int} {d : ByteArray} (hm : okMsg k c r) (hi : ok64 id) : wpFn P tnil noW noL 0 Go.Proofs.Try.f30 [.ag [.i .i64 k, .i .i64 c, .i .u32 r, .s d], .i .i64 id] [] fun v _ => v = .ag [.i .i64 k, .i .i64 c, .i .u32 (Iv r id), .s d] := by
  rw [vc30]
  obtain ⟨m0, m1⟩ := hm
  have ht := tmod16 id
  have hr : Int.tmod r 65536 = r % 65536 := Int.tmod_eq_emod_of_nonneg m0
  have hv : ∀ x : Int, x = id % 65536 → IntKind.wrap .u32 (IntKind.wrap .u32 (IntKind.wrap .u32 x * 65536) + Int.tmod r 65536) = Iv r id := by
    rintro x rfl
    rw [hr, u32w, u32w, u32w]; unfold Iv; omega
  refine br_intro (fun h => ?_) (fun h => ?_)
  · have h : Int.tmod id 65536 < 0 := by simpa using h
    have h1 := ht.1 h
    refine ⟨_, ⟨rfl⟩, ⟨by simp⟩, ⟨by simp⟩, ?_⟩
    show AV.ag [_, _, AV.i .u32 (IntKind.wrap .u32 _), _] = _
    rw [hv _ (by rw [i64w (by omega) (by omega)]; exact h1)]
  · have h : ¬ Int.tmod id 65536 < 0 := by simpa using h
    have h1 := ht.2 h
    refine ⟨_, ⟨rfl⟩, ⟨by simp⟩, ⟨by simp⟩, ?_⟩
    show AV.ag [_, _, AV.i .u32 (IntKind.wrap .u32 _), _] = _
    rw [hv _ h1]
theorem run28 {k c r : Int} {d : ByteArray} : wpFn P tnil noW noL 0 Go.Proofs.Try.f28 [.ag [.i .i64 k, .i .i64 c, .i .u32 r, .s d]] [] fun v _ => v = .bo (F6 k) := by
  rw [vc28]
  refine ⟨_, ⟨rfl⟩, br_intro (fun h => ⟨_, ⟨rfl⟩, bo_eq ?_⟩) (fun h => bo_eq ?_)⟩
  · have h : k ≥ 1 := by simpa using h
    unfold F6; rw [decide_eq_true (show 1 ≤ k from h)]; simp
  · have h : ¬ k ≥ 1 := by simpa using h
    unfold F6; rw [decide_eq_false (show ¬ 1 ≤ k from h)]; simp
theorem run31 {k c r : Int} {d : ByteArray} : wpFn P tnil noW noL 0 Go.Proofs.Try.f31 [.ag [.i .i64 k, .i .i64 c, .i .u32 r, .s d]] [] fun v _ => v = .bo (F6 k) := by
  rw [vc31]
  refine ⟨_, ⟨rfl⟩, br_intro (fun h => ⟨_, ⟨rfl⟩, bo_eq ?_⟩) (fun h => bo_eq ?_)⟩
  · have h : k > 0 := by simpa using h
    unfold F6; rw [decide_eq_true (show 1 ≤ k by omega), Bool.true_and, Bool.eq_iff_iff]
    simp only [decide_eq_true_eq]; omega
  · have h : ¬ k > 0 := by simpa using h
    unfold F6; rw [decide_eq_false (show ¬ 1 ≤ k by omega)]; simp
theorem run11 {k c r id : Int} {d : ByteArray} (hm : okMsg k c r) (hi : ok64 id) : Holds (wpFn P (TM 13 32 36 34 37 35 38 (Evv 8 0) (Avv 8 0) (Sv 8 0) Iv F4) W11 noL 0 Go.Proofs.Try.f11 [.ag [.i .i64 k, .i .i64 c, .i .u32 r, .s d], .i .i64 id] [] fun v _ => v = .bo true) := by
  refine ⟨?_⟩
  rw [vc11]
  refine ⟨_, ⟨rfl⟩, br_intro (fun _ => rfl) (fun _ => ⟨⟨hm⟩, ⟨hm⟩, ?_⟩)⟩
  rw [beq_self_eq_true, beq_self_eq_true, beq_self_eq_true, br_true, br_true, br_true]
  refine ⟨⟨hm⟩, ⟨hi⟩, ⟨hm⟩, ⟨hi⟩, ?_⟩
  rw [beq_self_eq_true, beq_self_eq_true, beq_self_eq_true, dd, br_true, br_true, br_true, br_true]
  exact ⟨⟨hm⟩, ⟨hm⟩, by rw [beq_self_eq_true]⟩
theorem run12 {k c r id : Int} {d : ByteArray} (hm : okMsg k c r) (h0 : 0 ≤ id) (h1 : id ≤ 65535) : Holds (wpFn P (TM 13 32 36 34 37 35 38 (Evv 8 0) (Avv 8 0) (Sv 8 0) Iv F4) W12 noL 0 Go.Proofs.Try.f12 [.ag [.i .i64 k, .i .i64 c, .i .u32 r, .s d], .i .u16 id] [] fun v _ => v = .bo true) := by
  refine ⟨?_⟩
  rw [vc12]
  obtain ⟨m0, m1⟩ := hm
  have hw : IntKind.wrap .i64 id = id := i64w (by omega) (by omega)
  have hI : Iv r id = id * 65536 + r % 65536 := by unfold Iv; omega
  have hx : okMsg k c (Iv r id) := by unfold okMsg; rw [hI]; omega
  have e16 : ((2 : Int) ^ min (Int.toNat (16 : Int)) (IntKind.bits IntKind.u32)) = 65536 := by decide
  rw [hw]
  refine ⟨_, ⟨rfl⟩, br_intro (fun _ => rfl) (fun _ => ⟨⟨m0, m1⟩, ⟨m0, m1⟩, ⟨by unfold ok64; omega⟩, ⟨by simp⟩, ⟨hx⟩, ?_⟩)⟩
  rw [beq_self_eq_true, beq_self_eq_true, Bool.not_true, br_false, br_false]
  refine ⟨_, ⟨rfl⟩, _, ⟨rfl⟩, ?_⟩
  rw [bne_self_eq_false, br_false]
  refine ⟨_, ⟨rfl⟩, _, ⟨rfl⟩, ?_⟩
  rw [bne_self_eq_false, br_false]
  refine ⟨_, ⟨rfl⟩, _, ⟨rfl⟩, ?_⟩
  rw [beq_self_eq_true, Bool.not_true, br_false]
  refine ⟨_, ⟨rfl⟩, _, ⟨rfl⟩, ?_⟩
  have g1 : (Go.bits .and .u32 (Iv r id) 65535 != Go.bits .and .u32 r 65535) = false := by
    rw [and32, and32, hI, bne_eq_false_iff_eq]; omega
  rw [g1, br_false]
  refine ⟨_, ⟨rfl⟩, ?_⟩
  have g2 : (Int.fdiv (Iv r id) ((2 : Int) ^ min (Int.toNat (16 : Int)) (IntKind.bits IntKind.u32)) != IntKind.wrap .u32 id) = false := by
    rw [e16, Int.fdiv_eq_ediv_of_nonneg _ (by decide), u32w, hI, bne_eq_false_iff_eq]; omega
  rw [g2, br_false]
  have hE : ∀ x, Evv 8 0 k c x = if Sv 8 0 k c = true then x / 65536 else 0 := fun _ => rfl
  have hA : Sv 8 0 k c = false → Avv 8 0 k c = false := by
    unfold Sv Avv; intro h; simp_all
  cases hS : Sv 8 0 k c with
  | false =>
    rw [hE, hE, hS, hA hS]
    rfl
  | true =>
    have hF : F4 k = false := by
      unfold Sv at hS
      simp only [Bool.and_eq_true, Bool.or_eq_true, beq_iff_eq] at hS
      rcases hS.2 with h | h <;> subst h <;> decide
    rw [hE, hE, hS]
    simp only [if_true, Bool.not_true, br_false]
    have g3 : (Iv r id / 65536 == id) = true := by rw [hI, beq_iff_eq]; omega
    have g4 : (Iv (Iv r id) (r / 65536) == r) = true := by rw [beq_iff_eq]; unfold Iv; omega
    rw [g3, br_true]
    refine ⟨⟨hx⟩, ⟨by unfold ok64; omega⟩, ?_⟩
    rw [beq_self_eq_true, beq_self_eq_true, dd, g4, br_true, br_true, br_true, br_true, hF]
    exact ⟨⟨m0, m1⟩, rfl⟩
theorem run8 {k c r id : Int} {d : ByteArray} (hm : okMsg k c r) (hi : ok64 id) : Holds (wpFn P (TM 19 25 29 27 30 28 31 (Evv 128 129) (Avv 128 129) (Sv 128 129) Iv F6) W8 noL 0 Go.Proofs.Try.f8 [.ag [.i .i64 k, .i .i64 c, .i .u32 r, .s d], .i .i64 id] [] fun v _ => v = .bo true) := by
  refine ⟨?_⟩
  rw [vc8]
  refine ⟨_, ⟨rfl⟩, br_intro (fun _ => rfl) (fun _ => ⟨⟨hm⟩, ⟨hm⟩, ?_⟩)⟩
  rw [beq_self_eq_true, beq_self_eq_true, beq_self_eq_true, br_true, br_true, br_true]
  refine ⟨⟨hm⟩, ⟨hi⟩, ⟨hm⟩, ⟨hi⟩, ?_⟩
  rw [beq_self_eq_true, beq_self_eq_true, beq_self_eq_true, dd, br_true, br_true, br_true, br_true]
  exact ⟨⟨hm⟩, ⟨hm⟩, by rw [beq_self_eq_true]⟩
theorem run9 {k c r id : Int} {d : ByteArray} (hm : okMsg k c r) (h0 : 0 ≤ id) (h1 : id ≤ 65535) : Holds (wpFn P (TM 19 25 29 27 30 28 31 (Evv 128 129) (Avv 128 129) (Sv 128 129) Iv F6) W9 noL 0 Go.Proofs.Try.f9 [.ag [.i .i64 k, .i .i64 c, .i .u32 r, .s d], .i .u16 id] [] fun v _ => v = .bo true) := by
  refine ⟨?_⟩
  rw [vc9]
  obtain ⟨m0, m1⟩ := hm
  have hw : IntKind.wrap .i64 id = id := i64w (by omega) (by omega)
  have hI : Iv r id = id * 65536 + r % 65536 := by unfold Iv; omega
  have hx : okMsg k c (Iv r id) := by unfold okMsg; rw [hI]; omega
  have e16 : ((2 : Int) ^ min (Int.toNat (16 : Int)) (IntKind.bits IntKind.u32)) = 65536 := by decide
  rw [hw]
  refine ⟨_, ⟨rfl⟩, br_intro (fun _ => rfl) (fun _ => ⟨⟨m0, m1⟩, ⟨m0, m1⟩, ⟨by unfold ok64; omega⟩, ⟨by simp⟩, ⟨hx⟩, ?_⟩)⟩
  rw [beq_self_eq_true, beq_self_eq_true, Bool.not_true, br_false, br_false]
  refine ⟨_, ⟨rfl⟩, _, ⟨rfl⟩, ?_⟩
  rw [bne_self_eq_false, br_false]
  refine ⟨_, ⟨rfl⟩, _, ⟨rfl⟩, ?_⟩
  rw [bne_self_eq_false, br_false]
  refine ⟨_, ⟨rfl⟩, _, ⟨rfl⟩, ?_⟩
  rw [beq_self_eq_true, Bool.not_true, br_false]
  refine ⟨_, ⟨rfl⟩, _, ⟨rfl⟩, ?_⟩
  have g1 : (Go.bits .and .u32 (Iv r id) 65535 != Go.bits .and .u32 r 65535) = false := by
    rw [and32, and32, hI, bne_eq_false_iff_eq]; omega
  rw [g1, br_false]
  refine ⟨_, ⟨rfl⟩, ?_⟩
  have g2 : (Int.fdiv (Iv r id) ((2 : Int) ^ min (Int.toNat (16 : Int)) (IntKind.bits IntKind.u32)) != IntKind.wrap .u32 id) = false := by
    rw [e16, Int.fdiv_eq_ediv_of_nonneg _ (by decide), u32w, hI, bne_eq_false_iff_eq]; omega
  rw [g2, br_false]
  have hE : ∀ x, Evv 128 129 k c x = if Sv 128 129 k c = true then x / 65536 else 0 := fun _ => rfl
  have hA : Sv 128 129 k c = false → Avv 128 129 k c = false := by
    unfold Sv Avv; intro h; simp_all
  cases hS : Sv 128 129 k c with
  | false =>
    rw [hE, hE, hS, hA hS]
    rfl
  | true =>
    have hF : F6 k = false := by
      unfold Sv at hS
      simp only [Bool.and_eq_true, Bool.or_eq_true, beq_iff_eq] at hS
      rcases hS.2 with h | h <;> subst h <;> decide
    rw [hE, hE, hS]
    simp only [if_true, Bool.not_true, br_false]
    have g3 : (Iv r id / 65536 == id) = true := by rw [hI, beq_iff_eq]; omega
    have g4 : (Iv (Iv r id) (r / 65536) == r) = true := by rw [beq_iff_eq]; unfold Iv; omega
    rw [g3, br_true]
    refine ⟨⟨hx⟩, ⟨by unfold ok64; omega⟩, ?_⟩
    rw [beq_self_eq_true, beq_self_eq_true, dd, g4, br_true, br_true, br_true, br_true, hF]
    exact ⟨⟨m0, m1⟩, rfl⟩
/-! Contracts -/
theorem mo : P.follows .mixedOrders = true := by kernel_rfl
abbrev Msg : Type := Int × Int × Int × ByteArray
def mkM (m : Msg) : AV := .ag [.i .i64 m.1, .i .i64 m.2.1, .i .u32 m.2.2.1, .s m.2.2.2]
theorem mkM_inj {a b : Msg} (h : mkM a = mkM b) : a = b := by
  obtain ⟨k, c, r, d⟩ := a
  obtain ⟨k', c', r', d'⟩ := b
  simp only [mkM, AV.ag.injEq, List.cons.injEq, AV.i.injEq, AV.s.injEq, and_true, true_and] at h
  obtain ⟨rfl, rfl, rfl, rfl⟩ := h
  rfl
def okM (m : Msg) : Prop := okMsg m.1 m.2.1 m.2.2.1
def Secho (E : Int → Int → Int → Int) (A S : Int → Int → Bool) : Rel := Splain (fun m : Msg => [mkM m]) okM fun m => .tu [.i .i64 (E m.1 m.2.1 m.2.2.1), .bo (A m.1 m.2.1), .bo (S m.1 m.2.1)]
def Swith (I : Int → Int → Int) : Rel := Splain (fun q : Msg × Int => [mkM q.1, .i .i64 q.2]) (fun q => okM q.1 ∧ ok64 q.2) fun q => mkM (q.1.1, q.1.2.1, I q.1.2.2.1 q.2, q.1.2.2.2)
def Sfail (Fl : Int → Bool) : Rel := Splain (fun m : Msg => [mkM m]) okM fun m => .bo (Fl m.1)
theorem techo_f {E : Int → Int → Int → Int} {A S : Int → Int → Bool} : FollowsF (techo E A S) (Cof (Secho E A S)) := by
  refine follows_of (Splain.det fun x y h => mkM_inj (by simpa using h)) fun args h K hk => ?_
  unfold techo at hk
  split at hk
  · rename_i k c r d
    exact ⟨_, _, ⟨rfl, (k, c, r, d), rfl, hk.1.out, rfl⟩, hk.2⟩
  · exact hk.elim
theorem tfail_f {Fl : Int → Bool} : FollowsF (tfail Fl) (Cof (Sfail Fl)) := by
  refine follows_of (Splain.det fun x y h => mkM_inj (by simpa using h)) fun args h K hk => ?_
  unfold tfail at hk
  split at hk
  · rename_i k c r d
    exact ⟨_, _, ⟨rfl, (k, c, r, d), rfl, hk.1.out, rfl⟩, hk.2⟩
  · exact hk.elim
theorem twith_f {I : Int → Int → Int} : FollowsF (twith I) (Cof (Swith I)) := by
  refine follows_of (Splain.det fun x y h => ?_) fun args h K hk => ?_
  · obtain ⟨m, i⟩ := x
    obtain ⟨m', i'⟩ := y
    simp only [List.cons.injEq, AV.i.injEq, and_true, true_and] at h
    obtain ⟨h, rfl⟩ := h
    rw [mkM_inj h]
  · unfold twith at hk
    split at hk
    · rename_i k c r d id
      exact ⟨_, _, ⟨rfl, ((k, c, r, d), id), rfl, ⟨hk.1.out, hk.2.1.out⟩, rfl⟩, hk.2.2⟩
    · exact hk.elim
def WA : FuncId → Nat → Option Road
  | 13, 3 => some ⟨some ([], (.pure 0 (.pure 1 (.pure 2 (.pure 3 (.pure 4 (.pure 5 (.pure 6 (.old 7 (.eff 8 (.pure 9 (.pure 10 (.pure 11 (.pure 12 (.pure 13 (.pure 14 (.pure 15 .nil))))))))))))))))), .nil⟩
  | 19, 3 => some ⟨some ([], (.pure 0 (.pure 1 (.pure 2 (.pure 3 (.pure 4 (.pure 5 (.pure 6 (.old 7 (.eff 8 (.pure 9 (.pure 10 (.pure 11 (.pure 12 (.pure 13 (.pure 14 (.pure 15 .nil))))))))))))))))), .nil⟩
  | _, _ => none
noncomputable def G0 : Env := envN P WA 200 [13, 14, 16, 18, 19, 20, 22, 24, 25, 26, 27, 28, 32, 33, 34, 35, 39, 40, 42, 43, 44, 45, 47, 48, 49, 51, 52] [] noEnv 8
theorem G0_s : Sound P G0 := envN_sound (by kernel_rfl) (by kernel_rfl) (noEnv_sound _) _
def isTrue (r : Option (AV × Hp)) : Bool := match r with
  | some (.bo true, _) => true
  | _ => false
theorem isTrue_spec {r : Option (AV × Hp)} (h : isTrue r = true) : ∃ h', r = some (.bo true, h') := by
  unfold isTrue at h
  split at h
  · exact ⟨_, rfl⟩
  · cases h
theorem ok13 : fnOk1 P (WA 13) 13 Go.Proofs.Try.f13 := ⟨Go.Proofs.Try.func13, by kernel_rfl, by kernel_rfl, by kernel_rfl⟩
theorem ok32 : fnOk1 P noW 32 Go.Proofs.Try.f32 := ⟨Go.Proofs.Try.func32, by kernel_rfl, by kernel_rfl, by kernel_rfl⟩
theorem ok36 : fnOk1 P noW 36 Go.Proofs.Try.f36 := ⟨Go.Proofs.Try.func36, by kernel_rfl, by kernel_rfl, by kernel_rfl⟩
theorem ok34 : fnOk1 P noW 34 Go.Proofs.Try.f34 := ⟨Go.Proofs.Try.func34, by kernel_rfl, by kernel_rfl, by kernel_rfl⟩
theorem ok37 : fnOk1 P noW 37 Go.Proofs.Try.f37 := ⟨Go.Proofs.Try.func37, by kernel_rfl, by kernel_rfl, by kernel_rfl⟩
theorem ok35 : fnOk1 P noW 35 Go.Proofs.Try.f35 := ⟨Go.Proofs.Try.func35, by kernel_rfl, by kernel_rfl, by kernel_rfl⟩
theorem ok38 : fnOk1 P noW 38 Go.Proofs.Try.f38 := ⟨Go.Proofs.Try.func38, by kernel_rfl, by kernel_rfl, by kernel_rfl⟩
theorem ok11 : fnOk1 P W11 11 Go.Proofs.Try.f11 := ⟨Go.Proofs.Try.func11, by kernel_rfl, by kernel_rfl, by kernel_rfl⟩
theorem ok12 : fnOk1 P W12 12 Go.Proofs.Try.f12 := ⟨Go.Proofs.Try.func12, by kernel_rfl, by kernel_rfl, by kernel_rfl⟩
theorem woke13 : isTrue (G0 13 [] []) = true := by kernel_rfl
theorem s13 : SoundF P 13 (Cconst (.bo true)) := by
  obtain ⟨h', he⟩ := isTrue_spec woke13
  exact SoundF.const G0_s he rfl
theorem s32 : SoundF P 32 (Cof (Secho (Evv 8 0) (Avv 8 0) (Sv 8 0))) := SoundF.plainH (follows_nil noEnv) (noEnv_sound P) mo ok32 (fun _ => rfl) (fun _ => rfl) noL fun m hm => ⟨run32 hm⟩
theorem s36 : SoundF P 36 (Cof (Secho (Evv 8 0) (Avv 8 0) (Sv 8 0))) := SoundF.plainH (follows_nil noEnv) (noEnv_sound P) mo ok36 (fun _ => rfl) (fun _ => rfl) noL fun m hm => ⟨run36 hm⟩
theorem s34 : SoundF P 34 (Cof (Swith Iv)) := SoundF.plainH (follows_nil noEnv) (noEnv_sound P) mo ok34 (fun _ => rfl) (fun _ => rfl) noL fun q hq => ⟨run34 hq.1 hq.2⟩
theorem s37 : SoundF P 37 (Cof (Swith Iv)) := SoundF.plainH (follows_nil noEnv) (noEnv_sound P) mo ok37 (fun _ => rfl) (fun _ => rfl) noL fun q hq => ⟨run37 hq.1 hq.2⟩
theorem s35 : SoundF P 35 (Cof (Sfail F4)) := SoundF.plainH (follows_nil noEnv) (noEnv_sound P) mo ok35 (fun _ => rfl) (fun _ => rfl) noL fun m hm => ⟨run35⟩
theorem s38 : SoundF P 38 (Cof (Sfail F4)) := SoundF.plainH (follows_nil noEnv) (noEnv_sound P) mo ok38 (fun _ => rfl) (fun _ => rfl) noL fun m hm => ⟨run38⟩
noncomputable def G4 : Env := (with1 13 (Cconst (.bo true)) (with1 32 (Cof (Secho (Evv 8 0) (Avv 8 0) (Sv 8 0))) (with1 36 (Cof (Secho (Evv 8 0) (Avv 8 0) (Sv 8 0))) (with1 34 (Cof (Swith Iv)) (with1 37 (Cof (Swith Iv)) (with1 35 (Cof (Sfail F4)) (with1 38 (Cof (Sfail F4)) noEnv)))))))
theorem G4_s : Sound P G4 := (with1_sound ok13.ok s13 (with1_sound ok32.ok s32 (with1_sound ok36.ok s36 (with1_sound ok34.ok s34 (with1_sound ok37.ok s37 (with1_sound ok35.ok s35 (with1_sound ok38.ok s38 (noEnv_sound P))))))))
theorem G4_f : Follows (TM 13 32 36 34 37 35 38 (Evv 8 0) (Avv 8 0) (Sv 8 0) Iv F4) G4 := (follows_cons (follows_const _) (follows_cons techo_f (follows_cons techo_f (follows_cons twith_f (follows_cons twith_f (follows_cons tfail_f (follows_cons tfail_f (follows_nil _))))))))
theorem ok19 : fnOk1 P (WA 19) 19 Go.Proofs.Try.f19 := ⟨Go.Proofs.Try.func19, by kernel_rfl, by kernel_rfl, by kernel_rfl⟩
theorem ok25 : fnOk1 P noW 25 Go.Proofs.Try.f25 := ⟨Go.Proofs.Try.func25, by kernel_rfl, by kernel_rfl, by kernel_rfl⟩
theorem ok29 : fnOk1 P noW 29 Go.Proofs.Try.f29 := ⟨Go.Proofs.Try.func29, by kernel_rfl, by kernel_rfl, by kernel_rfl⟩
theorem ok27 : fnOk1 P noW 27 Go.Proofs.Try.f27 := ⟨Go.Proofs.Try.func27, by kernel_rfl, by kernel_rfl, by kernel_rfl⟩
theorem ok30 : fnOk1 P noW 30 Go.Proofs.Try.f30 := ⟨Go.Proofs.Try.func30, by kernel_rfl, by kernel_rfl, by kernel_rfl⟩
theorem ok28 : fnOk1 P noW 28 Go.Proofs.Try.f28 := ⟨Go.Proofs.Try.func28, by kernel_rfl, by kernel_rfl, by kernel_rfl⟩
theorem ok31 : fnOk1 P noW 31 Go.Proofs.Try.f31 := ⟨Go.Proofs.Try.func31, by kernel_rfl, by kernel_rfl, by kernel_rfl⟩
theorem ok8 : fnOk1 P W8 8 Go.Proofs.Try.f8 := ⟨Go.Proofs.Try.func8, by kernel_rfl, by kernel_rfl, by kernel_rfl⟩
theorem ok9 : fnOk1 P W9 9 Go.Proofs.Try.f9 := ⟨Go.Proofs.Try.func9, by kernel_rfl, by kernel_rfl, by kernel_rfl⟩
theorem woke19 : isTrue (G0 19 [] []) = true := by kernel_rfl
theorem s19 : SoundF P 19 (Cconst (.bo true)) := by
  obtain ⟨h', he⟩ := isTrue_spec woke19
  exact SoundF.const G0_s he rfl
theorem s25 : SoundF P 25 (Cof (Secho (Evv 128 129) (Avv 128 129) (Sv 128 129))) := SoundF.plainH (follows_nil noEnv) (noEnv_sound P) mo ok25 (fun _ => rfl) (fun _ => rfl) noL fun m hm => ⟨run25 hm⟩
theorem s29 : SoundF P 29 (Cof (Secho (Evv 128 129) (Avv 128 129) (Sv 128 129))) := SoundF.plainH (follows_nil noEnv) (noEnv_sound P) mo ok29 (fun _ => rfl) (fun _ => rfl) noL fun m hm => ⟨run29 hm⟩
theorem s27 : SoundF P 27 (Cof (Swith Iv)) := SoundF.plainH (follows_nil noEnv) (noEnv_sound P) mo ok27 (fun _ => rfl) (fun _ => rfl) noL fun q hq => ⟨run27 hq.1 hq.2⟩
theorem s30 : SoundF P 30 (Cof (Swith Iv)) := SoundF.plainH (follows_nil noEnv) (noEnv_sound P) mo ok30 (fun _ => rfl) (fun _ => rfl) noL fun q hq => ⟨run30 hq.1 hq.2⟩
theorem s28 : SoundF P 28 (Cof (Sfail F6)) := SoundF.plainH (follows_nil noEnv) (noEnv_sound P) mo ok28 (fun _ => rfl) (fun _ => rfl) noL fun m hm => ⟨run28⟩
theorem s31 : SoundF P 31 (Cof (Sfail F6)) := SoundF.plainH (follows_nil noEnv) (noEnv_sound P) mo ok31 (fun _ => rfl) (fun _ => rfl) noL fun m hm => ⟨run31⟩
noncomputable def G6 : Env := (with1 19 (Cconst (.bo true)) (with1 25 (Cof (Secho (Evv 128 129) (Avv 128 129) (Sv 128 129))) (with1 29 (Cof (Secho (Evv 128 129) (Avv 128 129) (Sv 128 129))) (with1 27 (Cof (Swith Iv)) (with1 30 (Cof (Swith Iv)) (with1 28 (Cof (Sfail F6)) (with1 31 (Cof (Sfail F6)) noEnv)))))))
theorem G6_s : Sound P G6 := (with1_sound ok19.ok s19 (with1_sound ok25.ok s25 (with1_sound ok29.ok s29 (with1_sound ok27.ok s27 (with1_sound ok30.ok s30 (with1_sound ok28.ok s28 (with1_sound ok31.ok s31 (noEnv_sound P))))))))
theorem G6_f : Follows (TM 19 25 29 27 30 28 31 (Evv 128 129) (Avv 128 129) (Sv 128 129) Iv F6) G6 := (follows_cons (follows_const _) (follows_cons techo_f (follows_cons techo_f (follows_cons twith_f (follows_cons twith_f (follows_cons tfail_f (follows_cons tfail_f (follows_nil _))))))))
end Go.Proofs.Ythlehnnmkadigaa.IcmpRun
