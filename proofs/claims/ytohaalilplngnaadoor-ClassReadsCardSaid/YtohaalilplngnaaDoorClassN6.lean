/- Words of prefixes: the program's and the document's readers are one. -/
import Derived.Test.YtohaalilplngnaaDoorClassT6
import Derived.Test.YtohaalilplngnaaDoorClassMa
set_option linter.unusedVariables false
set_option linter.unusedSimpArgs false
open Go Go.Proofs.YtohaalilplngnaaDoor.Eng Go.RowKit
namespace Go.Proofs.YtohaalilplngnaaDoor.ClassRun
def Wpn : FuncId → Nat → Option Eng.Road
  | 30, 5 => some ⟨some ([], (.pure 1 (.pure 2 (.old 0 (.old 3 (.two 4 (.pure 5 (.eff 6 .nil)) 6 (.eff 4 (.pure 5 .nil)) .nil)))))), (.eff 7 .nil)⟩
  | 31, 5 => some ⟨some ([], (.pure 1 (.pure 2 (.old 0 (.old 3 (.two 4 (.pure 5 (.eff 6 .nil)) 6 (.eff 4 (.pure 5 .nil)) .nil)))))), (.eff 7 .nil)⟩
  | _, _ => none
def tpp4 (A : ByteArray → AV) (args : List AV) (h : Hp) (K : AV → Hp → Prop) : Prop := match args with
  | [.s s] => Holds (s.size ≤ 4096) ∧ ∀ (a0 a1 a2 a3 : Int) (ok : Bool), Holds (A s = .tu [.ag [.i .u8 a0, .i .u8 a1, .i .u8 a2, .i .u8 a3], .bo ok]) → K (.tu [.ag [.i .u8 a0, .i .u8 a1, .i .u8 a2, .i .u8 a3], .bo ok]) h
  | _ => False
def tpp16 (A : ByteArray → AV) (args : List AV) (h : Hp) (K : AV → Hp → Prop) : Prop := match args with
  | [.s s] => Holds (s.size ≤ 4096) ∧ ∀ (a0 a1 a2 a3 a4 a5 a6 a7 a8 a9 a10 a11 a12 a13 a14 a15 : Int) (ok : Bool), Holds (A s = .tu [.ag [.i .u8 a0, .i .u8 a1, .i .u8 a2, .i .u8 a3, .i .u8 a4, .i .u8 a5, .i .u8 a6, .i .u8 a7, .i .u8 a8, .i .u8 a9, .i .u8 a10, .i .u8 a11, .i .u8 a12, .i .u8 a13, .i .u8 a14, .i .u8 a15], .bo ok]) → K (.tu [.ag [.i .u8 a0, .i .u8 a1, .i .u8 a2, .i .u8 a3, .i .u8 a4, .i .u8 a5, .i .u8 a6, .i .u8 a7, .i .u8 a8, .i .u8 a9, .i .u8 a10, .i .u8 a11, .i .u8 a12, .i .u8 a13, .i .u8 a14, .i .u8 a15], .bo ok]) h
  | _ => False
set_option maxRecDepth 100000 in
theorem vc29 (C : ByteArray → ByteArray → ByteArray × ByteArray × Bool) (A : ByteArray → AV) (D : ByteArray → Int → Int × Bool) (B : List Int → Int → Bool) (s : ByteArray) (R : AV → Hp → Prop) : (wpFn P (tcons 42 (tcut C) (tcons 13 (tpp4 A) (tcons 40 (tdec D) (tcons 49 (tright 4 B) tnil)))) noW noL 0 Go.Proofs.Tryd.f29 [.s s] [] R) = (Holds (ByteArray.size s ≤ (4096 : Nat)) ∧ ∀ (a b : ByteArray) (ok : Bool), Holds (C s { data := #[(47 : UInt8)] } = (a, b, ok)) → Holds (ByteArray.size a ≤ (4096 : Nat)) ∧ ∀ (a0 a1 a2 a3 : Int) (ok_1 : Bool), Holds (A a = AV.tu [AV.ag [AV.i IntKind.u8 a0, AV.i IntKind.u8 a1, AV.i IntKind.u8 a2, AV.i IntKind.u8 a3], AV.bo ok_1]) → Holds ((4 : Nat) ≤ List.length [AV.i IntKind.u8 (0 : Int), AV.i IntKind.u8 (0 : Int), AV.i IntKind.u8 (0 : Int), AV.i IntKind.u8 (0 : Int)]) ∧ ∀ (v : Int) (ok_2 : Bool), Holds (D b (32 : Int) = (v, ok_2)) → Holds ((5 : Nat) ≤ List.length [AV.i IntKind.u8 (0 : Int), AV.i IntKind.u8 (0 : Int), AV.i IntKind.u8 (0 : Int), AV.i IntKind.u8 (0 : Int), AV.i IntKind.i64 (0 : Int)]) ∧ br (!ok) (Holds ((5 : Nat) ≤ List.length [AV.i IntKind.u8 (0 : Int), AV.i IntKind.u8 (0 : Int), AV.i IntKind.u8 (0 : Int), AV.i IntKind.u8 (0 : Int), AV.i IntKind.i64 (0 : Int)]) ∧ R (AV.tu [AV.ag [AV.i IntKind.u8 (0 : Int), AV.i IntKind.u8 (0 : Int), AV.i IntKind.u8 (0 : Int), AV.i IntKind.u8 (0 : Int), AV.i IntKind.i64 (0 : Int)], AV.bo false]) [Blk.cells [AV.i IntKind.u8 (0 : Int), AV.i IntKind.u8 (0 : Int), AV.i IntKind.u8 (0 : Int), AV.i IntKind.u8 (0 : Int), AV.i IntKind.i64 (0 : Int)] true, Blk.cells [AV.i IntKind.u8 a0, AV.i IntKind.u8 a1, AV.i IntKind.u8 a2, AV.i IntKind.u8 a3] true, Blk.cells [AV.i IntKind.u8 a0, AV.i IntKind.u8 a1, AV.i IntKind.u8 a2, AV.i IntKind.u8 a3, AV.i IntKind.i64 v] true]) (br (!ok_1) (Holds ((5 : Nat) ≤ List.length [AV.i IntKind.u8 (0 : Int), AV.i IntKind.u8 (0 : Int), AV.i IntKind.u8 (0 : Int), AV.i IntKind.u8 (0 : Int), AV.i IntKind.i64 (0 : Int)]) ∧ R (AV.tu [AV.ag [AV.i IntKind.u8 (0 : Int), AV.i IntKind.u8 (0 : Int), AV.i IntKind.u8 (0 : Int), AV.i IntKind.u8 (0 : Int), AV.i IntKind.i64 (0 : Int)], AV.bo false]) [Blk.cells [AV.i IntKind.u8 (0 : Int), AV.i IntKind.u8 (0 : Int), AV.i IntKind.u8 (0 : Int), AV.i IntKind.u8 (0 : Int), AV.i IntKind.i64 (0 : Int)] true, Blk.cells [AV.i IntKind.u8 a0, AV.i IntKind.u8 a1, AV.i IntKind.u8 a2, AV.i IntKind.u8 a3] true, Blk.cells [AV.i IntKind.u8 a0, AV.i IntKind.u8 a1, AV.i IntKind.u8 a2, AV.i IntKind.u8 a3, AV.i IntKind.i64 v] true]) (br (!ok_2) (Holds ((5 : Nat) ≤ List.length [AV.i IntKind.u8 (0 : Int), AV.i IntKind.u8 (0 : Int), AV.i IntKind.u8 (0 : Int), AV.i IntKind.u8 (0 : Int), AV.i IntKind.i64 (0 : Int)]) ∧ R (AV.tu [AV.ag [AV.i IntKind.u8 (0 : Int), AV.i IntKind.u8 (0 : Int), AV.i IntKind.u8 (0 : Int), AV.i IntKind.u8 (0 : Int), AV.i IntKind.i64 (0 : Int)], AV.bo false]) [Blk.cells [AV.i IntKind.u8 (0 : Int), AV.i IntKind.u8 (0 : Int), AV.i IntKind.u8 (0 : Int), AV.i IntKind.u8 (0 : Int), AV.i IntKind.i64 (0 : Int)] true, Blk.cells [AV.i IntKind.u8 a0, AV.i IntKind.u8 a1, AV.i IntKind.u8 a2, AV.i IntKind.u8 a3] true, Blk.cells [AV.i IntKind.u8 a0, AV.i IntKind.u8 a1, AV.i IntKind.u8 a2, AV.i IntKind.u8 a3, AV.i IntKind.i64 v] true]) (Holds (okb ((fun (l : List Int) => a0 :: l) ((fun (l : List Int) => a1 :: l) ((fun (l : List Int) => a2 :: l) ((fun (l : List Int) => a3 :: l) [])))) ∧ List.length ((fun (l : List Int) => a0 :: l) ((fun (l : List Int) => a1 :: l) ((fun (l : List Int) => a2 :: l) ((fun (l : List Int) => a3 :: l) [])))) = (4 : Nat)) ∧ br (!B ((fun (l : List Int) => a0 :: l) ((fun (l : List Int) => a1 :: l) ((fun (l : List Int) => a2 :: l) ((fun (l : List Int) => a3 :: l) [])))) v) (Holds ((5 : Nat) ≤ List.length [AV.i IntKind.u8 (0 : Int), AV.i IntKind.u8 (0 : Int), AV.i IntKind.u8 (0 : Int), AV.i IntKind.u8 (0 : Int), AV.i IntKind.i64 (0 : Int)]) ∧ R (AV.tu [AV.ag [AV.i IntKind.u8 (0 : Int), AV.i IntKind.u8 (0 : Int), AV.i IntKind.u8 (0 : Int), AV.i IntKind.u8 (0 : Int), AV.i IntKind.i64 (0 : Int)], AV.bo false]) [Blk.cells [AV.i IntKind.u8 (0 : Int), AV.i IntKind.u8 (0 : Int), AV.i IntKind.u8 (0 : Int), AV.i IntKind.u8 (0 : Int), AV.i IntKind.i64 (0 : Int)] true, Blk.cells [AV.i IntKind.u8 a0, AV.i IntKind.u8 a1, AV.i IntKind.u8 a2, AV.i IntKind.u8 a3] true, Blk.cells [AV.i IntKind.u8 a0, AV.i IntKind.u8 a1, AV.i IntKind.u8 a2, AV.i IntKind.u8 a3, AV.i IntKind.i64 v] true]) (Holds ((5 : Nat) ≤ List.length [AV.i IntKind.u8 (0 : Int), AV.i IntKind.u8 (0 : Int), AV.i IntKind.u8 (0 : Int), AV.i IntKind.u8 (0 : Int), AV.i IntKind.i64 (0 : Int)]) ∧ R (AV.tu [AV.ag [AV.i IntKind.u8 a0, AV.i IntKind.u8 a1, AV.i IntKind.u8 a2, AV.i IntKind.u8 a3, AV.i IntKind.i64 v], AV.bo true]) [Blk.cells [AV.i IntKind.u8 a0, AV.i IntKind.u8 a1, AV.i IntKind.u8 a2, AV.i IntKind.u8 a3, AV.i IntKind.i64 v] true, Blk.cells [AV.i IntKind.u8 a0, AV.i IntKind.u8 a1, AV.i IntKind.u8 a2, AV.i IntKind.u8 a3] true, Blk.cells [AV.i IntKind.u8 a0, AV.i IntKind.u8 a1, AV.i IntKind.u8 a2, AV.i IntKind.u8 a3, AV.i IntKind.i64 v] true]))))) := by kernel_rfl
set_option maxRecDepth 100000 in
theorem vc24 (C : ByteArray → ByteArray → ByteArray × ByteArray × Bool) (A : ByteArray → AV) (D : ByteArray → Int → Int × Bool) (B : List Int → Int → Bool) (s : ByteArray) (R : AV → Hp → Prop) : (wpFn P (tcons 42 (tcut C) (tcons 15 (tpp16 A) (tcons 40 (tdec D) (tcons 47 (tright 16 B) tnil)))) noW noL 0 Go.Proofs.Tryd.f24 [.s s] [] R) = (Holds (ByteArray.size s ≤ (4096 : Nat)) ∧ ∀ (a b : ByteArray) (ok : Bool), Holds (C s { data := #[(47 : UInt8)] } = (a, b, ok)) → Holds (ByteArray.size a ≤ (4096 : Nat)) ∧ ∀ (a0 a1 a2 a3 a4 a5 a6 a7 a8 a9 a10 a11 a12 a13 a14 a15 : Int) (ok_1 : Bool), Holds (A a = AV.tu [AV.ag [AV.i IntKind.u8 a0, AV.i IntKind.u8 a1, AV.i IntKind.u8 a2, AV.i IntKind.u8 a3, AV.i IntKind.u8 a4, AV.i IntKind.u8 a5, AV.i IntKind.u8 a6, AV.i IntKind.u8 a7, AV.i IntKind.u8 a8, AV.i IntKind.u8 a9, AV.i IntKind.u8 a10, AV.i IntKind.u8 a11, AV.i IntKind.u8 a12, AV.i IntKind.u8 a13, AV.i IntKind.u8 a14, AV.i IntKind.u8 a15], AV.bo ok_1]) → Holds ((16 : Nat) ≤ List.length [AV.i IntKind.u8 (0 : Int), AV.i IntKind.u8 (0 : Int), AV.i IntKind.u8 (0 : Int), AV.i IntKind.u8 (0 : Int), AV.i IntKind.u8 (0 : Int), AV.i IntKind.u8 (0 : Int), AV.i IntKind.u8 (0 : Int), AV.i IntKind.u8 (0 : Int), AV.i IntKind.u8 (0 : Int), AV.i IntKind.u8 (0 : Int), AV.i IntKind.u8 (0 : Int), AV.i IntKind.u8 (0 : Int), AV.i IntKind.u8 (0 : Int), AV.i IntKind.u8 (0 : Int), AV.i IntKind.u8 (0 : Int), AV.i IntKind.u8 (0 : Int)]) ∧ ∀ (v : Int) (ok_2 : Bool), Holds (D b (128 : Int) = (v, ok_2)) → Holds ((17 : Nat) ≤ List.length [AV.i IntKind.u8 (0 : Int), AV.i IntKind.u8 (0 : Int), AV.i IntKind.u8 (0 : Int), AV.i IntKind.u8 (0 : Int), AV.i IntKind.u8 (0 : Int), AV.i IntKind.u8 (0 : Int), AV.i IntKind.u8 (0 : Int), AV.i IntKind.u8 (0 : Int), AV.i IntKind.u8 (0 : Int), AV.i IntKind.u8 (0 : Int), AV.i IntKind.u8 (0 : Int), AV.i IntKind.u8 (0 : Int), AV.i IntKind.u8 (0 : Int), AV.i IntKind.u8 (0 : Int), AV.i IntKind.u8 (0 : Int), AV.i IntKind.u8 (0 : Int), AV.i IntKind.i64 (0 : Int)]) ∧ br (!ok) (Holds ((17 : Nat) ≤ List.length [AV.i IntKind.u8 (0 : Int), AV.i IntKind.u8 (0 : Int), AV.i IntKind.u8 (0 : Int), AV.i IntKind.u8 (0 : Int), AV.i IntKind.u8 (0 : Int), AV.i IntKind.u8 (0 : Int), AV.i IntKind.u8 (0 : Int), AV.i IntKind.u8 (0 : Int), AV.i IntKind.u8 (0 : Int), AV.i IntKind.u8 (0 : Int), AV.i IntKind.u8 (0 : Int), AV.i IntKind.u8 (0 : Int), AV.i IntKind.u8 (0 : Int), AV.i IntKind.u8 (0 : Int), AV.i IntKind.u8 (0 : Int), AV.i IntKind.u8 (0 : Int), AV.i IntKind.i64 (0 : Int)]) ∧ R (AV.tu [AV.ag [AV.i IntKind.u8 (0 : Int), AV.i IntKind.u8 (0 : Int), AV.i IntKind.u8 (0 : Int), AV.i IntKind.u8 (0 : Int), AV.i IntKind.u8 (0 : Int), AV.i IntKind.u8 (0 : Int), AV.i IntKind.u8 (0 : Int), AV.i IntKind.u8 (0 : Int), AV.i IntKind.u8 (0 : Int), AV.i IntKind.u8 (0 : Int), AV.i IntKind.u8 (0 : Int), AV.i IntKind.u8 (0 : Int), AV.i IntKind.u8 (0 : Int), AV.i IntKind.u8 (0 : Int), AV.i IntKind.u8 (0 : Int), AV.i IntKind.u8 (0 : Int), AV.i IntKind.i64 (0 : Int)], AV.bo false]) [Blk.cells [AV.i IntKind.u8 (0 : Int), AV.i IntKind.u8 (0 : Int), AV.i IntKind.u8 (0 : Int), AV.i IntKind.u8 (0 : Int), AV.i IntKind.u8 (0 : Int), AV.i IntKind.u8 (0 : Int), AV.i IntKind.u8 (0 : Int), AV.i IntKind.u8 (0 : Int), AV.i IntKind.u8 (0 : Int), AV.i IntKind.u8 (0 : Int), AV.i IntKind.u8 (0 : Int), AV.i IntKind.u8 (0 : Int), AV.i IntKind.u8 (0 : Int), AV.i IntKind.u8 (0 : Int), AV.i IntKind.u8 (0 : Int), AV.i IntKind.u8 (0 : Int), AV.i IntKind.i64 (0 : Int)] true, Blk.cells [AV.i IntKind.u8 a0, AV.i IntKind.u8 a1, AV.i IntKind.u8 a2, AV.i IntKind.u8 a3, AV.i IntKind.u8 a4, AV.i IntKind.u8 a5, AV.i IntKind.u8 a6, AV.i IntKind.u8 a7, AV.i IntKind.u8 a8, AV.i IntKind.u8 a9, AV.i IntKind.u8 a10, AV.i IntKind.u8 a11, AV.i IntKind.u8 a12, AV.i IntKind.u8 a13, AV.i IntKind.u8 a14, AV.i IntKind.u8 a15] true, Blk.cells [AV.i IntKind.u8 a0, AV.i IntKind.u8 a1, AV.i IntKind.u8 a2, AV.i IntKind.u8 a3, AV.i IntKind.u8 a4, AV.i IntKind.u8 a5, AV.i IntKind.u8 a6, AV.i IntKind.u8 a7, AV.i IntKind.u8 a8, AV.i IntKind.u8 a9, AV.i IntKind.u8 a10, AV.i IntKind.u8 a11, AV.i IntKind.u8 a12, AV.i IntKind.u8 a13, AV.i IntKind.u8 a14, AV.i IntKind.u8 a15, AV.i IntKind.i64 v] true]) (br (!ok_1) (Holds ((17 : Nat) ≤ List.length [AV.i IntKind.u8 (0 : Int), AV.i IntKind.u8 (0 : Int), AV.i IntKind.u8 (0 : Int), AV.i IntKind.u8 (0 : Int), AV.i IntKind.u8 (0 : Int), AV.i IntKind.u8 (0 : Int), AV.i IntKind.u8 (0 : Int), AV.i IntKind.u8 (0 : Int), AV.i IntKind.u8 (0 : Int), AV.i IntKind.u8 (0 : Int), AV.i IntKind.u8 (0 : Int), AV.i IntKind.u8 (0 : Int), AV.i IntKind.u8 (0 : Int), AV.i IntKind.u8 (0 : Int), AV.i IntKind.u8 (0 : Int), AV.i IntKind.u8 (0 : Int), AV.i IntKind.i64 (0 : Int)]) ∧ R (AV.tu [AV.ag [AV.i IntKind.u8 (0 : Int), AV.i IntKind.u8 (0 : Int), AV.i IntKind.u8 (0 : Int), AV.i IntKind.u8 (0 : Int), AV.i IntKind.u8 (0 : Int), AV.i IntKind.u8 (0 : Int), AV.i IntKind.u8 (0 : Int), AV.i IntKind.u8 (0 : Int), AV.i IntKind.u8 (0 : Int), AV.i IntKind.u8 (0 : Int), AV.i IntKind.u8 (0 : Int), AV.i IntKind.u8 (0 : Int), AV.i IntKind.u8 (0 : Int), AV.i IntKind.u8 (0 : Int), AV.i IntKind.u8 (0 : Int), AV.i IntKind.u8 (0 : Int), AV.i IntKind.i64 (0 : Int)], AV.bo false]) [Blk.cells [AV.i IntKind.u8 (0 : Int), AV.i IntKind.u8 (0 : Int), AV.i IntKind.u8 (0 : Int), AV.i IntKind.u8 (0 : Int), AV.i IntKind.u8 (0 : Int), AV.i IntKind.u8 (0 : Int), AV.i IntKind.u8 (0 : Int), AV.i IntKind.u8 (0 : Int), AV.i IntKind.u8 (0 : Int), AV.i IntKind.u8 (0 : Int), AV.i IntKind.u8 (0 : Int), AV.i IntKind.u8 (0 : Int), AV.i IntKind.u8 (0 : Int), AV.i IntKind.u8 (0 : Int), AV.i IntKind.u8 (0 : Int), AV.i IntKind.u8 (0 : Int), AV.i IntKind.i64 (0 : Int)] true, Blk.cells [AV.i IntKind.u8 a0, AV.i IntKind.u8 a1, AV.i IntKind.u8 a2, AV.i IntKind.u8 a3, AV.i IntKind.u8 a4, AV.i IntKind.u8 a5, AV.i IntKind.u8 a6, AV.i IntKind.u8 a7, AV.i IntKind.u8 a8, AV.i IntKind.u8 a9, AV.i IntKind.u8 a10, AV.i IntKind.u8 a11, AV.i IntKind.u8 a12, AV.i IntKind.u8 a13, AV.i IntKind.u8 a14, AV.i IntKind.u8 a15] true, Blk.cells [AV.i IntKind.u8 a0, AV.i IntKind.u8 a1, AV.i IntKind.u8 a2, AV.i IntKind.u8 a3, AV.i IntKind.u8 a4, AV.i IntKind.u8 a5, AV.i IntKind.u8 a6, AV.i IntKind.u8 a7, AV.i IntKind.u8 a8, AV.i IntKind.u8 a9, AV.i IntKind.u8 a10, AV.i IntKind.u8 a11, AV.i IntKind.u8 a12, AV.i IntKind.u8 a13, AV.i IntKind.u8 a14, AV.i IntKind.u8 a15, AV.i IntKind.i64 v] true]) (br (!ok_2) (Holds ((17 : Nat) ≤ List.length [AV.i IntKind.u8 (0 : Int), AV.i IntKind.u8 (0 : Int), AV.i IntKind.u8 (0 : Int), AV.i IntKind.u8 (0 : Int), AV.i IntKind.u8 (0 : Int), AV.i IntKind.u8 (0 : Int), AV.i IntKind.u8 (0 : Int), AV.i IntKind.u8 (0 : Int), AV.i IntKind.u8 (0 : Int), AV.i IntKind.u8 (0 : Int), AV.i IntKind.u8 (0 : Int), AV.i IntKind.u8 (0 : Int), AV.i IntKind.u8 (0 : Int), AV.i IntKind.u8 (0 : Int), AV.i IntKind.u8 (0 : Int), AV.i IntKind.u8 (0 : Int), AV.i IntKind.i64 (0 : Int)]) ∧ R (AV.tu [AV.ag [AV.i IntKind.u8 (0 : Int), AV.i IntKind.u8 (0 : Int), AV.i IntKind.u8 (0 : Int), AV.i IntKind.u8 (0 : Int), AV.i IntKind.u8 (0 : Int), AV.i IntKind.u8 (0 : Int), AV.i IntKind.u8 (0 : Int), AV.i IntKind.u8 (0 : Int), AV.i IntKind.u8 (0 : Int), AV.i IntKind.u8 (0 : Int), AV.i IntKind.u8 (0 : Int), AV.i IntKind.u8 (0 : Int), AV.i IntKind.u8 (0 : Int), AV.i IntKind.u8 (0 : Int), AV.i IntKind.u8 (0 : Int), AV.i IntKind.u8 (0 : Int), AV.i IntKind.i64 (0 : Int)], AV.bo false]) [Blk.cells [AV.i IntKind.u8 (0 : Int), AV.i IntKind.u8 (0 : Int), AV.i IntKind.u8 (0 : Int), AV.i IntKind.u8 (0 : Int), AV.i IntKind.u8 (0 : Int), AV.i IntKind.u8 (0 : Int), AV.i IntKind.u8 (0 : Int), AV.i IntKind.u8 (0 : Int), AV.i IntKind.u8 (0 : Int), AV.i IntKind.u8 (0 : Int), AV.i IntKind.u8 (0 : Int), AV.i IntKind.u8 (0 : Int), AV.i IntKind.u8 (0 : Int), AV.i IntKind.u8 (0 : Int), AV.i IntKind.u8 (0 : Int), AV.i IntKind.u8 (0 : Int), AV.i IntKind.i64 (0 : Int)] true, Blk.cells [AV.i IntKind.u8 a0, AV.i IntKind.u8 a1, AV.i IntKind.u8 a2, AV.i IntKind.u8 a3, AV.i IntKind.u8 a4, AV.i IntKind.u8 a5, AV.i IntKind.u8 a6, AV.i IntKind.u8 a7, AV.i IntKind.u8 a8, AV.i IntKind.u8 a9, AV.i IntKind.u8 a10, AV.i IntKind.u8 a11, AV.i IntKind.u8 a12, AV.i IntKind.u8 a13, AV.i IntKind.u8 a14, AV.i IntKind.u8 a15] true, Blk.cells [AV.i IntKind.u8 a0, AV.i IntKind.u8 a1, AV.i IntKind.u8 a2, AV.i IntKind.u8 a3, AV.i IntKind.u8 a4, AV.i IntKind.u8 a5, AV.i IntKind.u8 a6, AV.i IntKind.u8 a7, AV.i IntKind.u8 a8, AV.i IntKind.u8 a9, AV.i IntKind.u8 a10, AV.i IntKind.u8 a11, AV.i IntKind.u8 a12, AV.i IntKind.u8 a13, AV.i IntKind.u8 a14, AV.i IntKind.u8 a15, AV.i IntKind.i64 v] true]) (Holds (okb ((fun (l : List Int) => a0 :: l) ((fun (l : List Int) => a1 :: l) ((fun (l : List Int) => a2 :: l) ((fun (l : List Int) => a3 :: l) ((fun (l : List Int) => a4 :: l) ((fun (l : List Int) => a5 :: l) ((fun (l : List Int) => a6 :: l) ((fun (l : List Int) => a7 :: l) ((fun (l : List Int) => a8 :: l) ((fun (l : List Int) => a9 :: l) ((fun (l : List Int) => a10 :: l) ((fun (l : List Int) => a11 :: l) ((fun (l : List Int) => a12 :: l) ((fun (l : List Int) => a13 :: l) ((fun (l : List Int) => a14 :: l) ((fun (l : List Int) => a15 :: l) [])))))))))))))))) ∧ List.length ((fun (l : List Int) => a0 :: l) ((fun (l : List Int) => a1 :: l) ((fun (l : List Int) => a2 :: l) ((fun (l : List Int) => a3 :: l) ((fun (l : List Int) => a4 :: l) ((fun (l : List Int) => a5 :: l) ((fun (l : List Int) => a6 :: l) ((fun (l : List Int) => a7 :: l) ((fun (l : List Int) => a8 :: l) ((fun (l : List Int) => a9 :: l) ((fun (l : List Int) => a10 :: l) ((fun (l : List Int) => a11 :: l) ((fun (l : List Int) => a12 :: l) ((fun (l : List Int) => a13 :: l) ((fun (l : List Int) => a14 :: l) ((fun (l : List Int) => a15 :: l) [])))))))))))))))) = (16 : Nat)) ∧ br (!B ((fun (l : List Int) => a0 :: l) ((fun (l : List Int) => a1 :: l) ((fun (l : List Int) => a2 :: l) ((fun (l : List Int) => a3 :: l) ((fun (l : List Int) => a4 :: l) ((fun (l : List Int) => a5 :: l) ((fun (l : List Int) => a6 :: l) ((fun (l : List Int) => a7 :: l) ((fun (l : List Int) => a8 :: l) ((fun (l : List Int) => a9 :: l) ((fun (l : List Int) => a10 :: l) ((fun (l : List Int) => a11 :: l) ((fun (l : List Int) => a12 :: l) ((fun (l : List Int) => a13 :: l) ((fun (l : List Int) => a14 :: l) ((fun (l : List Int) => a15 :: l) [])))))))))))))))) v) (Holds ((17 : Nat) ≤ List.length [AV.i IntKind.u8 (0 : Int), AV.i IntKind.u8 (0 : Int), AV.i IntKind.u8 (0 : Int), AV.i IntKind.u8 (0 : Int), AV.i IntKind.u8 (0 : Int), AV.i IntKind.u8 (0 : Int), AV.i IntKind.u8 (0 : Int), AV.i IntKind.u8 (0 : Int), AV.i IntKind.u8 (0 : Int), AV.i IntKind.u8 (0 : Int), AV.i IntKind.u8 (0 : Int), AV.i IntKind.u8 (0 : Int), AV.i IntKind.u8 (0 : Int), AV.i IntKind.u8 (0 : Int), AV.i IntKind.u8 (0 : Int), AV.i IntKind.u8 (0 : Int), AV.i IntKind.i64 (0 : Int)]) ∧ R (AV.tu [AV.ag [AV.i IntKind.u8 (0 : Int), AV.i IntKind.u8 (0 : Int), AV.i IntKind.u8 (0 : Int), AV.i IntKind.u8 (0 : Int), AV.i IntKind.u8 (0 : Int), AV.i IntKind.u8 (0 : Int), AV.i IntKind.u8 (0 : Int), AV.i IntKind.u8 (0 : Int), AV.i IntKind.u8 (0 : Int), AV.i IntKind.u8 (0 : Int), AV.i IntKind.u8 (0 : Int), AV.i IntKind.u8 (0 : Int), AV.i IntKind.u8 (0 : Int), AV.i IntKind.u8 (0 : Int), AV.i IntKind.u8 (0 : Int), AV.i IntKind.u8 (0 : Int), AV.i IntKind.i64 (0 : Int)], AV.bo false]) [Blk.cells [AV.i IntKind.u8 (0 : Int), AV.i IntKind.u8 (0 : Int), AV.i IntKind.u8 (0 : Int), AV.i IntKind.u8 (0 : Int), AV.i IntKind.u8 (0 : Int), AV.i IntKind.u8 (0 : Int), AV.i IntKind.u8 (0 : Int), AV.i IntKind.u8 (0 : Int), AV.i IntKind.u8 (0 : Int), AV.i IntKind.u8 (0 : Int), AV.i IntKind.u8 (0 : Int), AV.i IntKind.u8 (0 : Int), AV.i IntKind.u8 (0 : Int), AV.i IntKind.u8 (0 : Int), AV.i IntKind.u8 (0 : Int), AV.i IntKind.u8 (0 : Int), AV.i IntKind.i64 (0 : Int)] true, Blk.cells [AV.i IntKind.u8 a0, AV.i IntKind.u8 a1, AV.i IntKind.u8 a2, AV.i IntKind.u8 a3, AV.i IntKind.u8 a4, AV.i IntKind.u8 a5, AV.i IntKind.u8 a6, AV.i IntKind.u8 a7, AV.i IntKind.u8 a8, AV.i IntKind.u8 a9, AV.i IntKind.u8 a10, AV.i IntKind.u8 a11, AV.i IntKind.u8 a12, AV.i IntKind.u8 a13, AV.i IntKind.u8 a14, AV.i IntKind.u8 a15] true, Blk.cells [AV.i IntKind.u8 a0, AV.i IntKind.u8 a1, AV.i IntKind.u8 a2, AV.i IntKind.u8 a3, AV.i IntKind.u8 a4, AV.i IntKind.u8 a5, AV.i IntKind.u8 a6, AV.i IntKind.u8 a7, AV.i IntKind.u8 a8, AV.i IntKind.u8 a9, AV.i IntKind.u8 a10, AV.i IntKind.u8 a11, AV.i IntKind.u8 a12, AV.i IntKind.u8 a13, AV.i IntKind.u8 a14, AV.i IntKind.u8 a15, AV.i IntKind.i64 v] true]) (Holds ((17 : Nat) ≤ List.length [AV.i IntKind.u8 (0 : Int), AV.i IntKind.u8 (0 : Int), AV.i IntKind.u8 (0 : Int), AV.i IntKind.u8 (0 : Int), AV.i IntKind.u8 (0 : Int), AV.i IntKind.u8 (0 : Int), AV.i IntKind.u8 (0 : Int), AV.i IntKind.u8 (0 : Int), AV.i IntKind.u8 (0 : Int), AV.i IntKind.u8 (0 : Int), AV.i IntKind.u8 (0 : Int), AV.i IntKind.u8 (0 : Int), AV.i IntKind.u8 (0 : Int), AV.i IntKind.u8 (0 : Int), AV.i IntKind.u8 (0 : Int), AV.i IntKind.u8 (0 : Int), AV.i IntKind.i64 (0 : Int)]) ∧ R (AV.tu [AV.ag [AV.i IntKind.u8 a0, AV.i IntKind.u8 a1, AV.i IntKind.u8 a2, AV.i IntKind.u8 a3, AV.i IntKind.u8 a4, AV.i IntKind.u8 a5, AV.i IntKind.u8 a6, AV.i IntKind.u8 a7, AV.i IntKind.u8 a8, AV.i IntKind.u8 a9, AV.i IntKind.u8 a10, AV.i IntKind.u8 a11, AV.i IntKind.u8 a12, AV.i IntKind.u8 a13, AV.i IntKind.u8 a14, AV.i IntKind.u8 a15, AV.i IntKind.i64 v], AV.bo true]) [Blk.cells [AV.i IntKind.u8 a0, AV.i IntKind.u8 a1, AV.i IntKind.u8 a2, AV.i IntKind.u8 a3, AV.i IntKind.u8 a4, AV.i IntKind.u8 a5, AV.i IntKind.u8 a6, AV.i IntKind.u8 a7, AV.i IntKind.u8 a8, AV.i IntKind.u8 a9, AV.i IntKind.u8 a10, AV.i IntKind.u8 a11, AV.i IntKind.u8 a12, AV.i IntKind.u8 a13, AV.i IntKind.u8 a14, AV.i IntKind.u8 a15, AV.i IntKind.i64 v] true, Blk.cells [AV.i IntKind.u8 a0, AV.i IntKind.u8 a1, AV.i IntKind.u8 a2, AV.i IntKind.u8 a3, AV.i IntKind.u8 a4, AV.i IntKind.u8 a5, AV.i IntKind.u8 a6, AV.i IntKind.u8 a7, AV.i IntKind.u8 a8, AV.i IntKind.u8 a9, AV.i IntKind.u8 a10, AV.i IntKind.u8 a11, AV.i IntKind.u8 a12, AV.i IntKind.u8 a13, AV.i IntKind.u8 a14, AV.i IntKind.u8 a15] true, Blk.cells [AV.i IntKind.u8 a0, AV.i IntKind.u8 a1, AV.i IntKind.u8 a2, AV.i IntKind.u8 a3, AV.i IntKind.u8 a4, AV.i IntKind.u8 a5, AV.i IntKind.u8 a6, AV.i IntKind.u8 a7, AV.i IntKind.u8 a8, AV.i IntKind.u8 a9, AV.i IntKind.u8 a10, AV.i IntKind.u8 a11, AV.i IntKind.u8 a12, AV.i IntKind.u8 a13, AV.i IntKind.u8 a14, AV.i IntKind.u8 a15, AV.i IntKind.i64 v] true]))))) := by kernel_rfl
set_option maxRecDepth 100000 in
theorem vc30 (Sp : ByteArray → Int → List ByteArray) (A : ByteArray → AV) (D : ByteArray → Int → Int) (B : List Int → Int → List Int → Bool) (s : ByteArray) (R : AV → Hp → Prop) : (wpFn P (tcons 51 (tpartsR Sp) (tcons 27 (tpp4 A) (tcons 52 (tnum D) (tcons 33 (tnet 4 B) tnil)))) (Wpn 30) noL 0 Go.Proofs.Tryd.f30 [.s s] [] R) = (Holds (ByteArray.size s ≤ (4096 : Nat) ∧ (0 : Int) ≤ (47 : Int) ∧ (47 : Int) ≤ (255 : Int)) ∧ ∀ (L : List ByteArray), Holds (Sp s (47 : Int) = L) → br ((↑(List.length L) : Int) != (2 : Int)) (Holds ((5 : Nat) ≤ List.length [AV.i IntKind.u8 (0 : Int), AV.i IntKind.u8 (0 : Int), AV.i IntKind.u8 (0 : Int), AV.i IntKind.u8 (0 : Int), AV.i IntKind.i64 (0 : Int)]) ∧ R (AV.tu [AV.ag [AV.i IntKind.u8 (0 : Int), AV.i IntKind.u8 (0 : Int), AV.i IntKind.u8 (0 : Int), AV.i IntKind.u8 (0 : Int), AV.i IntKind.i64 (0 : Int)], AV.bo false]) [Blk.cells [AV.i IntKind.u8 (0 : Int), AV.i IntKind.u8 (0 : Int), AV.i IntKind.u8 (0 : Int), AV.i IntKind.u8 (0 : Int), AV.i IntKind.i64 (0 : Int)] true, Blk.cells (List.map AV.s L) true]) (Holds ((0 : Int) ≤ (0 : Int) ∧ (0 : Int) < (↑(List.length L) : Int)) ∧ ∃ (s_1 : ByteArray), Holds ((List.map AV.s L)[(0 : Nat)]? = some (AV.s s_1)) ∧ Holds (ByteArray.size s_1 ≤ (4096 : Nat)) ∧ ∀ (a0 a1 a2 a3 : Int) (ok : Bool), Holds (A s_1 = AV.tu [AV.ag [AV.i IntKind.u8 a0, AV.i IntKind.u8 a1, AV.i IntKind.u8 a2, AV.i IntKind.u8 a3], AV.bo ok]) → Holds ((4 : Nat) ≤ List.length [AV.i IntKind.u8 (0 : Int), AV.i IntKind.u8 (0 : Int), AV.i IntKind.u8 (0 : Int), AV.i IntKind.u8 (0 : Int)]) ∧ Holds ((0 : Int) ≤ (1 : Int) ∧ (1 : Int) < (↑(List.length L) : Int)) ∧ ∃ (s_2 : ByteArray), Holds ((List.map AV.s L)[(1 : Nat)]? = some (AV.s s_2)) ∧ ∀ (v : Int), Holds (D s_2 (32 : Int) = v) → (∀ (v_1 : Int), Holds (D s_2 (32 : Int) = v_1) → Holds (@Eq St { t := [AV.s s, AV.tu [], AV.p (0 : Nat) (0 : Nat), AV.bo false, AV.sl (1 : Nat) (0 : Nat) (List.length L) (1 : Nat) none, AV.p (2 : Nat) (0 : Nat), AV.bo ok, AV.p (3 : Nat) (0 : Nat), AV.s s, AV.sl (1 : Nat) (0 : Nat) (List.length L) (1 : Nat) none, AV.sl (1 : Nat) (0 : Nat) (List.length L) (1 : Nat) none, AV.i IntKind.i64 (↑(List.length L) : Int), AV.bo ((↑(List.length L) : Int) != (2 : Int)), AV.tu [], AV.tu [AV.ag [AV.i IntKind.u8 a0, AV.i IntKind.u8 a1, AV.i IntKind.u8 a2, AV.i IntKind.u8 a3], AV.bo ok], AV.sl (1 : Nat) (0 : Nat) (List.length L) (1 : Nat) none, AV.p (1 : Nat) (0 : Nat), AV.s s_1, AV.tu [AV.ag [AV.i IntKind.u8 a0, AV.i IntKind.u8 a1, AV.i IntKind.u8 a2, AV.i IntKind.u8 a3], AV.bo ok], AV.ag [AV.i IntKind.u8 a0, AV.i IntKind.u8 a1, AV.i IntKind.u8 a2, AV.i IntKind.u8 a3], AV.bo ok, AV.ag [AV.i IntKind.u8 a0, AV.i IntKind.u8 a1, AV.i IntKind.u8 a2, AV.i IntKind.u8 a3], AV.sl (1 : Nat) (0 : Nat) (List.length L) (1 : Nat) none, AV.p (1 : Nat) (1 : Nat), AV.s s_2, AV.i IntKind.i64 v, AV.ag [AV.i IntKind.u8 a0, AV.i IntKind.u8 a1, AV.i IntKind.u8 a2, AV.i IntKind.u8 a3, AV.i IntKind.i64 v], AV.tu [], AV.tu [], AV.tu [], AV.tu [], AV.tu [], AV.tu [], AV.tu [], AV.tu [], AV.tu [], AV.tu []], h := [Blk.cells [AV.i IntKind.u8 (0 : Int), AV.i IntKind.u8 (0 : Int), AV.i IntKind.u8 (0 : Int), AV.i IntKind.u8 (0 : Int), AV.i IntKind.i64 (0 : Int)] false, Blk.cells (List.map AV.s L) false, Blk.cells [AV.i IntKind.u8 a0, AV.i IntKind.u8 a1, AV.i IntKind.u8 a2, AV.i IntKind.u8 a3] false, Blk.cells [AV.i IntKind.u8 (0 : Int), AV.i IntKind.u8 (0 : Int), AV.i IntKind.u8 (0 : Int), AV.i IntKind.u8 (0 : Int), AV.i IntKind.i64 (0 : Int)] true] } { t := [AV.s s, AV.tu [], AV.p (0 : Nat) (0 : Nat), AV.bo false, AV.sl (1 : Nat) (0 : Nat) (List.length L) (1 : Nat) none, AV.p (2 : Nat) (0 : Nat), AV.bo ok, AV.p (3 : Nat) (0 : Nat), AV.s s, AV.sl (1 : Nat) (0 : Nat) (List.length L) (1 : Nat) none, AV.sl (1 : Nat) (0 : Nat) (List.length L) (1 : Nat) none, AV.i IntKind.i64 (↑(List.length L) : Int), AV.bo ((↑(List.length L) : Int) != (2 : Int)), AV.tu [], AV.tu [AV.ag [AV.i IntKind.u8 a0, AV.i IntKind.u8 a1, AV.i IntKind.u8 a2, AV.i IntKind.u8 a3], AV.bo ok], AV.sl (1 : Nat) (0 : Nat) (List.length L) (1 : Nat) none, AV.p (1 : Nat) (0 : Nat), AV.s s_1, AV.tu [AV.ag [AV.i IntKind.u8 a0, AV.i IntKind.u8 a1, AV.i IntKind.u8 a2, AV.i IntKind.u8 a3], AV.bo ok], AV.ag [AV.i IntKind.u8 a0, AV.i IntKind.u8 a1, AV.i IntKind.u8 a2, AV.i IntKind.u8 a3], AV.bo ok, AV.ag [AV.i IntKind.u8 a0, AV.i IntKind.u8 a1, AV.i IntKind.u8 a2, AV.i IntKind.u8 a3], AV.sl (1 : Nat) (0 : Nat) (List.length L) (1 : Nat) none, AV.p (1 : Nat) (1 : Nat), AV.s s_2, AV.i IntKind.i64 v_1, AV.ag [AV.i IntKind.u8 a0, AV.i IntKind.u8 a1, AV.i IntKind.u8 a2, AV.i IntKind.u8 a3, AV.i IntKind.i64 v_1], AV.tu [], AV.tu [], AV.tu [], AV.tu [], AV.tu [], AV.tu [], AV.tu [], AV.tu [], AV.tu [], AV.tu []], h := [Blk.cells [AV.i IntKind.u8 (0 : Int), AV.i IntKind.u8 (0 : Int), AV.i IntKind.u8 (0 : Int), AV.i IntKind.u8 (0 : Int), AV.i IntKind.i64 (0 : Int)] false, Blk.cells (List.map AV.s L) false, Blk.cells [AV.i IntKind.u8 a0, AV.i IntKind.u8 a1, AV.i IntKind.u8 a2, AV.i IntKind.u8 a3] false, Blk.cells [AV.i IntKind.u8 (0 : Int), AV.i IntKind.u8 (0 : Int), AV.i IntKind.u8 (0 : Int), AV.i IntKind.u8 (0 : Int), AV.i IntKind.i64 (0 : Int)] true] })) ∧ Holds ((5 : Nat) ≤ List.length [AV.i IntKind.u8 (0 : Int), AV.i IntKind.u8 (0 : Int), AV.i IntKind.u8 (0 : Int), AV.i IntKind.u8 (0 : Int), AV.i IntKind.i64 (0 : Int)]) ∧ br (!ok) (Holds ((5 : Nat) ≤ List.length [AV.i IntKind.u8 (0 : Int), AV.i IntKind.u8 (0 : Int), AV.i IntKind.u8 (0 : Int), AV.i IntKind.u8 (0 : Int), AV.i IntKind.i64 (0 : Int)]) ∧ R (AV.tu [AV.ag [AV.i IntKind.u8 (0 : Int), AV.i IntKind.u8 (0 : Int), AV.i IntKind.u8 (0 : Int), AV.i IntKind.u8 (0 : Int), AV.i IntKind.i64 (0 : Int)], AV.bo false]) [Blk.cells [AV.i IntKind.u8 (0 : Int), AV.i IntKind.u8 (0 : Int), AV.i IntKind.u8 (0 : Int), AV.i IntKind.u8 (0 : Int), AV.i IntKind.i64 (0 : Int)] true, Blk.cells (List.map AV.s L) true, Blk.cells [AV.i IntKind.u8 a0, AV.i IntKind.u8 a1, AV.i IntKind.u8 a2, AV.i IntKind.u8 a3] true, Blk.cells [AV.i IntKind.u8 a0, AV.i IntKind.u8 a1, AV.i IntKind.u8 a2, AV.i IntKind.u8 a3, AV.i IntKind.i64 v] true]) (Holds (okb ((fun (l : List Int) => a0 :: l) ((fun (l : List Int) => a1 :: l) ((fun (l : List Int) => a2 :: l) ((fun (l : List Int) => a3 :: l) [])))) ∧ List.length ((fun (l : List Int) => a0 :: l) ((fun (l : List Int) => a1 :: l) ((fun (l : List Int) => a2 :: l) ((fun (l : List Int) => a3 :: l) [])))) = (4 : Nat) ∧ okb ((fun (l : List Int) => a0 :: l) ((fun (l : List Int) => a1 :: l) ((fun (l : List Int) => a2 :: l) ((fun (l : List Int) => a3 :: l) [])))) ∧ List.length ((fun (l : List Int) => a0 :: l) ((fun (l : List Int) => a1 :: l) ((fun (l : List Int) => a2 :: l) ((fun (l : List Int) => a3 :: l) [])))) = (4 : Nat)) ∧ br (!B ((fun (l : List Int) => a0 :: l) ((fun (l : List Int) => a1 :: l) ((fun (l : List Int) => a2 :: l) ((fun (l : List Int) => a3 :: l) [])))) v ((fun (l : List Int) => a0 :: l) ((fun (l : List Int) => a1 :: l) ((fun (l : List Int) => a2 :: l) ((fun (l : List Int) => a3 :: l) []))))) (Holds ((5 : Nat) ≤ List.length [AV.i IntKind.u8 (0 : Int), AV.i IntKind.u8 (0 : Int), AV.i IntKind.u8 (0 : Int), AV.i IntKind.u8 (0 : Int), AV.i IntKind.i64 (0 : Int)]) ∧ R (AV.tu [AV.ag [AV.i IntKind.u8 (0 : Int), AV.i IntKind.u8 (0 : Int), AV.i IntKind.u8 (0 : Int), AV.i IntKind.u8 (0 : Int), AV.i IntKind.i64 (0 : Int)], AV.bo false]) [Blk.cells [AV.i IntKind.u8 (0 : Int), AV.i IntKind.u8 (0 : Int), AV.i IntKind.u8 (0 : Int), AV.i IntKind.u8 (0 : Int), AV.i IntKind.i64 (0 : Int)] true, Blk.cells (List.map AV.s L) true, Blk.cells [AV.i IntKind.u8 a0, AV.i IntKind.u8 a1, AV.i IntKind.u8 a2, AV.i IntKind.u8 a3] true, Blk.cells [AV.i IntKind.u8 a0, AV.i IntKind.u8 a1, AV.i IntKind.u8 a2, AV.i IntKind.u8 a3, AV.i IntKind.i64 v] true]) (Holds ((5 : Nat) ≤ List.length [AV.i IntKind.u8 (0 : Int), AV.i IntKind.u8 (0 : Int), AV.i IntKind.u8 (0 : Int), AV.i IntKind.u8 (0 : Int), AV.i IntKind.i64 (0 : Int)]) ∧ R (AV.tu [AV.ag [AV.i IntKind.u8 a0, AV.i IntKind.u8 a1, AV.i IntKind.u8 a2, AV.i IntKind.u8 a3, AV.i IntKind.i64 v], AV.bo true]) [Blk.cells [AV.i IntKind.u8 a0, AV.i IntKind.u8 a1, AV.i IntKind.u8 a2, AV.i IntKind.u8 a3, AV.i IntKind.i64 v] true, Blk.cells (List.map AV.s L) true, Blk.cells [AV.i IntKind.u8 a0, AV.i IntKind.u8 a1, AV.i IntKind.u8 a2, AV.i IntKind.u8 a3] true, Blk.cells [AV.i IntKind.u8 a0, AV.i IntKind.u8 a1, AV.i IntKind.u8 a2, AV.i IntKind.u8 a3, AV.i IntKind.i64 v] true])))) := by kernel_rfl
set_option maxRecDepth 100000 in
theorem vc31 (Sp : ByteArray → Int → List ByteArray) (A : ByteArray → AV) (D : ByteArray → Int → Int) (B : List Int → Int → List Int → Bool) (s : ByteArray) (R : AV → Hp → Prop) : (wpFn P (tcons 51 (tpartsR Sp) (tcons 28 (tpp16 A) (tcons 52 (tnum D) (tcons 34 (tnet 16 B) tnil)))) (Wpn 31) noL 0 Go.Proofs.Tryd.f31 [.s s] [] R) = (Holds (ByteArray.size s ≤ (4096 : Nat) ∧ (0 : Int) ≤ (47 : Int) ∧ (47 : Int) ≤ (255 : Int)) ∧ ∀ (L : List ByteArray), Holds (Sp s (47 : Int) = L) → br ((↑(List.length L) : Int) != (2 : Int)) (Holds ((17 : Nat) ≤ List.length [AV.i IntKind.u8 (0 : Int), AV.i IntKind.u8 (0 : Int), AV.i IntKind.u8 (0 : Int), AV.i IntKind.u8 (0 : Int), AV.i IntKind.u8 (0 : Int), AV.i IntKind.u8 (0 : Int), AV.i IntKind.u8 (0 : Int), AV.i IntKind.u8 (0 : Int), AV.i IntKind.u8 (0 : Int), AV.i IntKind.u8 (0 : Int), AV.i IntKind.u8 (0 : Int), AV.i IntKind.u8 (0 : Int), AV.i IntKind.u8 (0 : Int), AV.i IntKind.u8 (0 : Int), AV.i IntKind.u8 (0 : Int), AV.i IntKind.u8 (0 : Int), AV.i IntKind.i64 (0 : Int)]) ∧ R (AV.tu [AV.ag [AV.i IntKind.u8 (0 : Int), AV.i IntKind.u8 (0 : Int), AV.i IntKind.u8 (0 : Int), AV.i IntKind.u8 (0 : Int), AV.i IntKind.u8 (0 : Int), AV.i IntKind.u8 (0 : Int), AV.i IntKind.u8 (0 : Int), AV.i IntKind.u8 (0 : Int), AV.i IntKind.u8 (0 : Int), AV.i IntKind.u8 (0 : Int), AV.i IntKind.u8 (0 : Int), AV.i IntKind.u8 (0 : Int), AV.i IntKind.u8 (0 : Int), AV.i IntKind.u8 (0 : Int), AV.i IntKind.u8 (0 : Int), AV.i IntKind.u8 (0 : Int), AV.i IntKind.i64 (0 : Int)], AV.bo false]) [Blk.cells [AV.i IntKind.u8 (0 : Int), AV.i IntKind.u8 (0 : Int), AV.i IntKind.u8 (0 : Int), AV.i IntKind.u8 (0 : Int), AV.i IntKind.u8 (0 : Int), AV.i IntKind.u8 (0 : Int), AV.i IntKind.u8 (0 : Int), AV.i IntKind.u8 (0 : Int), AV.i IntKind.u8 (0 : Int), AV.i IntKind.u8 (0 : Int), AV.i IntKind.u8 (0 : Int), AV.i IntKind.u8 (0 : Int), AV.i IntKind.u8 (0 : Int), AV.i IntKind.u8 (0 : Int), AV.i IntKind.u8 (0 : Int), AV.i IntKind.u8 (0 : Int), AV.i IntKind.i64 (0 : Int)] true, Blk.cells (List.map AV.s L) true]) (Holds ((0 : Int) ≤ (0 : Int) ∧ (0 : Int) < (↑(List.length L) : Int)) ∧ ∃ (s_1 : ByteArray), Holds ((List.map AV.s L)[(0 : Nat)]? = some (AV.s s_1)) ∧ Holds (ByteArray.size s_1 ≤ (4096 : Nat)) ∧ ∀ (a0 a1 a2 a3 a4 a5 a6 a7 a8 a9 a10 a11 a12 a13 a14 a15 : Int) (ok : Bool), Holds (A s_1 = AV.tu [AV.ag [AV.i IntKind.u8 a0, AV.i IntKind.u8 a1, AV.i IntKind.u8 a2, AV.i IntKind.u8 a3, AV.i IntKind.u8 a4, AV.i IntKind.u8 a5, AV.i IntKind.u8 a6, AV.i IntKind.u8 a7, AV.i IntKind.u8 a8, AV.i IntKind.u8 a9, AV.i IntKind.u8 a10, AV.i IntKind.u8 a11, AV.i IntKind.u8 a12, AV.i IntKind.u8 a13, AV.i IntKind.u8 a14, AV.i IntKind.u8 a15], AV.bo ok]) → Holds ((16 : Nat) ≤ List.length [AV.i IntKind.u8 (0 : Int), AV.i IntKind.u8 (0 : Int), AV.i IntKind.u8 (0 : Int), AV.i IntKind.u8 (0 : Int), AV.i IntKind.u8 (0 : Int), AV.i IntKind.u8 (0 : Int), AV.i IntKind.u8 (0 : Int), AV.i IntKind.u8 (0 : Int), AV.i IntKind.u8 (0 : Int), AV.i IntKind.u8 (0 : Int), AV.i IntKind.u8 (0 : Int), AV.i IntKind.u8 (0 : Int), AV.i IntKind.u8 (0 : Int), AV.i IntKind.u8 (0 : Int), AV.i IntKind.u8 (0 : Int), AV.i IntKind.u8 (0 : Int)]) ∧ Holds ((0 : Int) ≤ (1 : Int) ∧ (1 : Int) < (↑(List.length L) : Int)) ∧ ∃ (s_2 : ByteArray), Holds ((List.map AV.s L)[(1 : Nat)]? = some (AV.s s_2)) ∧ ∀ (v : Int), Holds (D s_2 (128 : Int) = v) → (∀ (v_1 : Int), Holds (D s_2 (128 : Int) = v_1) → Holds (@Eq St { t := [AV.s s, AV.tu [], AV.p (0 : Nat) (0 : Nat), AV.bo false, AV.sl (1 : Nat) (0 : Nat) (List.length L) (1 : Nat) none, AV.p (2 : Nat) (0 : Nat), AV.bo ok, AV.p (3 : Nat) (0 : Nat), AV.s s, AV.sl (1 : Nat) (0 : Nat) (List.length L) (1 : Nat) none, AV.sl (1 : Nat) (0 : Nat) (List.length L) (1 : Nat) none, AV.i IntKind.i64 (↑(List.length L) : Int), AV.bo ((↑(List.length L) : Int) != (2 : Int)), AV.tu [], AV.tu [AV.ag [AV.i IntKind.u8 a0, AV.i IntKind.u8 a1, AV.i IntKind.u8 a2, AV.i IntKind.u8 a3, AV.i IntKind.u8 a4, AV.i IntKind.u8 a5, AV.i IntKind.u8 a6, AV.i IntKind.u8 a7, AV.i IntKind.u8 a8, AV.i IntKind.u8 a9, AV.i IntKind.u8 a10, AV.i IntKind.u8 a11, AV.i IntKind.u8 a12, AV.i IntKind.u8 a13, AV.i IntKind.u8 a14, AV.i IntKind.u8 a15], AV.bo ok], AV.sl (1 : Nat) (0 : Nat) (List.length L) (1 : Nat) none, AV.p (1 : Nat) (0 : Nat), AV.s s_1, AV.tu [AV.ag [AV.i IntKind.u8 a0, AV.i IntKind.u8 a1, AV.i IntKind.u8 a2, AV.i IntKind.u8 a3, AV.i IntKind.u8 a4, AV.i IntKind.u8 a5, AV.i IntKind.u8 a6, AV.i IntKind.u8 a7, AV.i IntKind.u8 a8, AV.i IntKind.u8 a9, AV.i IntKind.u8 a10, AV.i IntKind.u8 a11, AV.i IntKind.u8 a12, AV.i IntKind.u8 a13, AV.i IntKind.u8 a14, AV.i IntKind.u8 a15], AV.bo ok], AV.ag [AV.i IntKind.u8 a0, AV.i IntKind.u8 a1, AV.i IntKind.u8 a2, AV.i IntKind.u8 a3, AV.i IntKind.u8 a4, AV.i IntKind.u8 a5, AV.i IntKind.u8 a6, AV.i IntKind.u8 a7, AV.i IntKind.u8 a8, AV.i IntKind.u8 a9, AV.i IntKind.u8 a10, AV.i IntKind.u8 a11, AV.i IntKind.u8 a12, AV.i IntKind.u8 a13, AV.i IntKind.u8 a14, AV.i IntKind.u8 a15], AV.bo ok, AV.ag [AV.i IntKind.u8 a0, AV.i IntKind.u8 a1, AV.i IntKind.u8 a2, AV.i IntKind.u8 a3, AV.i IntKind.u8 a4, AV.i IntKind.u8 a5, AV.i IntKind.u8 a6, AV.i IntKind.u8 a7, AV.i IntKind.u8 a8, AV.i IntKind.u8 a9, AV.i IntKind.u8 a10, AV.i IntKind.u8 a11, AV.i IntKind.u8 a12, AV.i IntKind.u8 a13, AV.i IntKind.u8 a14, AV.i IntKind.u8 a15], AV.sl (1 : Nat) (0 : Nat) (List.length L) (1 : Nat) none, AV.p (1 : Nat) (1 : Nat), AV.s s_2, AV.i IntKind.i64 v, AV.ag [AV.i IntKind.u8 a0, AV.i IntKind.u8 a1, AV.i IntKind.u8 a2, AV.i IntKind.u8 a3, AV.i IntKind.u8 a4, AV.i IntKind.u8 a5, AV.i IntKind.u8 a6, AV.i IntKind.u8 a7, AV.i IntKind.u8 a8, AV.i IntKind.u8 a9, AV.i IntKind.u8 a10, AV.i IntKind.u8 a11, AV.i IntKind.u8 a12, AV.i IntKind.u8 a13, AV.i IntKind.u8 a14, AV.i IntKind.u8 a15, AV.i IntKind.i64 v], AV.tu [], AV.tu [], AV.tu [], AV.tu [], AV.tu [], AV.tu [], AV.tu [], AV.tu [], AV.tu [], AV.tu []], h := [Blk.cells [AV.i IntKind.u8 (0 : Int), AV.i IntKind.u8 (0 : Int), AV.i IntKind.u8 (0 : Int), AV.i IntKind.u8 (0 : Int), AV.i IntKind.u8 (0 : Int), AV.i IntKind.u8 (0 : Int), AV.i IntKind.u8 (0 : Int), AV.i IntKind.u8 (0 : Int), AV.i IntKind.u8 (0 : Int), AV.i IntKind.u8 (0 : Int), AV.i IntKind.u8 (0 : Int), AV.i IntKind.u8 (0 : Int), AV.i IntKind.u8 (0 : Int), AV.i IntKind.u8 (0 : Int), AV.i IntKind.u8 (0 : Int), AV.i IntKind.u8 (0 : Int), AV.i IntKind.i64 (0 : Int)] false, Blk.cells (List.map AV.s L) false, Blk.cells [AV.i IntKind.u8 a0, AV.i IntKind.u8 a1, AV.i IntKind.u8 a2, AV.i IntKind.u8 a3, AV.i IntKind.u8 a4, AV.i IntKind.u8 a5, AV.i IntKind.u8 a6, AV.i IntKind.u8 a7, AV.i IntKind.u8 a8, AV.i IntKind.u8 a9, AV.i IntKind.u8 a10, AV.i IntKind.u8 a11, AV.i IntKind.u8 a12, AV.i IntKind.u8 a13, AV.i IntKind.u8 a14, AV.i IntKind.u8 a15] false, Blk.cells [AV.i IntKind.u8 (0 : Int), AV.i IntKind.u8 (0 : Int), AV.i IntKind.u8 (0 : Int), AV.i IntKind.u8 (0 : Int), AV.i IntKind.u8 (0 : Int), AV.i IntKind.u8 (0 : Int), AV.i IntKind.u8 (0 : Int), AV.i IntKind.u8 (0 : Int), AV.i IntKind.u8 (0 : Int), AV.i IntKind.u8 (0 : Int), AV.i IntKind.u8 (0 : Int), AV.i IntKind.u8 (0 : Int), AV.i IntKind.u8 (0 : Int), AV.i IntKind.u8 (0 : Int), AV.i IntKind.u8 (0 : Int), AV.i IntKind.u8 (0 : Int), AV.i IntKind.i64 (0 : Int)] true] } { t := [AV.s s, AV.tu [], AV.p (0 : Nat) (0 : Nat), AV.bo false, AV.sl (1 : Nat) (0 : Nat) (List.length L) (1 : Nat) none, AV.p (2 : Nat) (0 : Nat), AV.bo ok, AV.p (3 : Nat) (0 : Nat), AV.s s, AV.sl (1 : Nat) (0 : Nat) (List.length L) (1 : Nat) none, AV.sl (1 : Nat) (0 : Nat) (List.length L) (1 : Nat) none, AV.i IntKind.i64 (↑(List.length L) : Int), AV.bo ((↑(List.length L) : Int) != (2 : Int)), AV.tu [], AV.tu [AV.ag [AV.i IntKind.u8 a0, AV.i IntKind.u8 a1, AV.i IntKind.u8 a2, AV.i IntKind.u8 a3, AV.i IntKind.u8 a4, AV.i IntKind.u8 a5, AV.i IntKind.u8 a6, AV.i IntKind.u8 a7, AV.i IntKind.u8 a8, AV.i IntKind.u8 a9, AV.i IntKind.u8 a10, AV.i IntKind.u8 a11, AV.i IntKind.u8 a12, AV.i IntKind.u8 a13, AV.i IntKind.u8 a14, AV.i IntKind.u8 a15], AV.bo ok], AV.sl (1 : Nat) (0 : Nat) (List.length L) (1 : Nat) none, AV.p (1 : Nat) (0 : Nat), AV.s s_1, AV.tu [AV.ag [AV.i IntKind.u8 a0, AV.i IntKind.u8 a1, AV.i IntKind.u8 a2, AV.i IntKind.u8 a3, AV.i IntKind.u8 a4, AV.i IntKind.u8 a5, AV.i IntKind.u8 a6, AV.i IntKind.u8 a7, AV.i IntKind.u8 a8, AV.i IntKind.u8 a9, AV.i IntKind.u8 a10, AV.i IntKind.u8 a11, AV.i IntKind.u8 a12, AV.i IntKind.u8 a13, AV.i IntKind.u8 a14, AV.i IntKind.u8 a15], AV.bo ok], AV.ag [AV.i IntKind.u8 a0, AV.i IntKind.u8 a1, AV.i IntKind.u8 a2, AV.i IntKind.u8 a3, AV.i IntKind.u8 a4, AV.i IntKind.u8 a5, AV.i IntKind.u8 a6, AV.i IntKind.u8 a7, AV.i IntKind.u8 a8, AV.i IntKind.u8 a9, AV.i IntKind.u8 a10, AV.i IntKind.u8 a11, AV.i IntKind.u8 a12, AV.i IntKind.u8 a13, AV.i IntKind.u8 a14, AV.i IntKind.u8 a15], AV.bo ok, AV.ag [AV.i IntKind.u8 a0, AV.i IntKind.u8 a1, AV.i IntKind.u8 a2, AV.i IntKind.u8 a3, AV.i IntKind.u8 a4, AV.i IntKind.u8 a5, AV.i IntKind.u8 a6, AV.i IntKind.u8 a7, AV.i IntKind.u8 a8, AV.i IntKind.u8 a9, AV.i IntKind.u8 a10, AV.i IntKind.u8 a11, AV.i IntKind.u8 a12, AV.i IntKind.u8 a13, AV.i IntKind.u8 a14, AV.i IntKind.u8 a15], AV.sl (1 : Nat) (0 : Nat) (List.length L) (1 : Nat) none, AV.p (1 : Nat) (1 : Nat), AV.s s_2, AV.i IntKind.i64 v_1, AV.ag [AV.i IntKind.u8 a0, AV.i IntKind.u8 a1, AV.i IntKind.u8 a2, AV.i IntKind.u8 a3, AV.i IntKind.u8 a4, AV.i IntKind.u8 a5, AV.i IntKind.u8 a6, AV.i IntKind.u8 a7, AV.i IntKind.u8 a8, AV.i IntKind.u8 a9, AV.i IntKind.u8 a10, AV.i IntKind.u8 a11, AV.i IntKind.u8 a12, AV.i IntKind.u8 a13, AV.i IntKind.u8 a14, AV.i IntKind.u8 a15, AV.i IntKind.i64 v_1], AV.tu [], AV.tu [], AV.tu [], AV.tu [], AV.tu [], AV.tu [], AV.tu [], AV.tu [], AV.tu [], AV.tu []], h := [Blk.cells [AV.i IntKind.u8 (0 : Int), AV.i IntKind.u8 (0 : Int), AV.i IntKind.u8 (0 : Int), AV.i IntKind.u8 (0 : Int), AV.i IntKind.u8 (0 : Int), AV.i IntKind.u8 (0 : Int), AV.i IntKind.u8 (0 : Int), AV.i IntKind.u8 (0 : Int), AV.i IntKind.u8 (0 : Int), AV.i IntKind.u8 (0 : Int), AV.i IntKind.u8 (0 : Int), AV.i IntKind.u8 (0 : Int), AV.i IntKind.u8 (0 : Int), AV.i IntKind.u8 (0 : Int), AV.i IntKind.u8 (0 : Int), AV.i IntKind.u8 (0 : Int), AV.i IntKind.i64 (0 : Int)] false, Blk.cells (List.map AV.s L) false, Blk.cells [AV.i IntKind.u8 a0, AV.i IntKind.u8 a1, AV.i IntKind.u8 a2, AV.i IntKind.u8 a3, AV.i IntKind.u8 a4, AV.i IntKind.u8 a5, AV.i IntKind.u8 a6, AV.i IntKind.u8 a7, AV.i IntKind.u8 a8, AV.i IntKind.u8 a9, AV.i IntKind.u8 a10, AV.i IntKind.u8 a11, AV.i IntKind.u8 a12, AV.i IntKind.u8 a13, AV.i IntKind.u8 a14, AV.i IntKind.u8 a15] false, Blk.cells [AV.i IntKind.u8 (0 : Int), AV.i IntKind.u8 (0 : Int), AV.i IntKind.u8 (0 : Int), AV.i IntKind.u8 (0 : Int), AV.i IntKind.u8 (0 : Int), AV.i IntKind.u8 (0 : Int), AV.i IntKind.u8 (0 : Int), AV.i IntKind.u8 (0 : Int), AV.i IntKind.u8 (0 : Int), AV.i IntKind.u8 (0 : Int), AV.i IntKind.u8 (0 : Int), AV.i IntKind.u8 (0 : Int), AV.i IntKind.u8 (0 : Int), AV.i IntKind.u8 (0 : Int), AV.i IntKind.u8 (0 : Int), AV.i IntKind.u8 (0 : Int), AV.i IntKind.i64 (0 : Int)] true] })) ∧ Holds ((17 : Nat) ≤ List.length [AV.i IntKind.u8 (0 : Int), AV.i IntKind.u8 (0 : Int), AV.i IntKind.u8 (0 : Int), AV.i IntKind.u8 (0 : Int), AV.i IntKind.u8 (0 : Int), AV.i IntKind.u8 (0 : Int), AV.i IntKind.u8 (0 : Int), AV.i IntKind.u8 (0 : Int), AV.i IntKind.u8 (0 : Int), AV.i IntKind.u8 (0 : Int), AV.i IntKind.u8 (0 : Int), AV.i IntKind.u8 (0 : Int), AV.i IntKind.u8 (0 : Int), AV.i IntKind.u8 (0 : Int), AV.i IntKind.u8 (0 : Int), AV.i IntKind.u8 (0 : Int), AV.i IntKind.i64 (0 : Int)]) ∧ br (!ok) (Holds ((17 : Nat) ≤ List.length [AV.i IntKind.u8 (0 : Int), AV.i IntKind.u8 (0 : Int), AV.i IntKind.u8 (0 : Int), AV.i IntKind.u8 (0 : Int), AV.i IntKind.u8 (0 : Int), AV.i IntKind.u8 (0 : Int), AV.i IntKind.u8 (0 : Int), AV.i IntKind.u8 (0 : Int), AV.i IntKind.u8 (0 : Int), AV.i IntKind.u8 (0 : Int), AV.i IntKind.u8 (0 : Int), AV.i IntKind.u8 (0 : Int), AV.i IntKind.u8 (0 : Int), AV.i IntKind.u8 (0 : Int), AV.i IntKind.u8 (0 : Int), AV.i IntKind.u8 (0 : Int), AV.i IntKind.i64 (0 : Int)]) ∧ R (AV.tu [AV.ag [AV.i IntKind.u8 (0 : Int), AV.i IntKind.u8 (0 : Int), AV.i IntKind.u8 (0 : Int), AV.i IntKind.u8 (0 : Int), AV.i IntKind.u8 (0 : Int), AV.i IntKind.u8 (0 : Int), AV.i IntKind.u8 (0 : Int), AV.i IntKind.u8 (0 : Int), AV.i IntKind.u8 (0 : Int), AV.i IntKind.u8 (0 : Int), AV.i IntKind.u8 (0 : Int), AV.i IntKind.u8 (0 : Int), AV.i IntKind.u8 (0 : Int), AV.i IntKind.u8 (0 : Int), AV.i IntKind.u8 (0 : Int), AV.i IntKind.u8 (0 : Int), AV.i IntKind.i64 (0 : Int)], AV.bo false]) [Blk.cells [AV.i IntKind.u8 (0 : Int), AV.i IntKind.u8 (0 : Int), AV.i IntKind.u8 (0 : Int), AV.i IntKind.u8 (0 : Int), AV.i IntKind.u8 (0 : Int), AV.i IntKind.u8 (0 : Int), AV.i IntKind.u8 (0 : Int), AV.i IntKind.u8 (0 : Int), AV.i IntKind.u8 (0 : Int), AV.i IntKind.u8 (0 : Int), AV.i IntKind.u8 (0 : Int), AV.i IntKind.u8 (0 : Int), AV.i IntKind.u8 (0 : Int), AV.i IntKind.u8 (0 : Int), AV.i IntKind.u8 (0 : Int), AV.i IntKind.u8 (0 : Int), AV.i IntKind.i64 (0 : Int)] true, Blk.cells (List.map AV.s L) true, Blk.cells [AV.i IntKind.u8 a0, AV.i IntKind.u8 a1, AV.i IntKind.u8 a2, AV.i IntKind.u8 a3, AV.i IntKind.u8 a4, AV.i IntKind.u8 a5, AV.i IntKind.u8 a6, AV.i IntKind.u8 a7, AV.i IntKind.u8 a8, AV.i IntKind.u8 a9, AV.i IntKind.u8 a10, AV.i IntKind.u8 a11, AV.i IntKind.u8 a12, AV.i IntKind.u8 a13, AV.i IntKind.u8 a14, AV.i IntKind.u8 a15] true, Blk.cells [AV.i IntKind.u8 a0, AV.i IntKind.u8 a1, AV.i IntKind.u8 a2, AV.i IntKind.u8 a3, AV.i IntKind.u8 a4, AV.i IntKind.u8 a5, AV.i IntKind.u8 a6, AV.i IntKind.u8 a7, AV.i IntKind.u8 a8, AV.i IntKind.u8 a9, AV.i IntKind.u8 a10, AV.i IntKind.u8 a11, AV.i IntKind.u8 a12, AV.i IntKind.u8 a13, AV.i IntKind.u8 a14, AV.i IntKind.u8 a15, AV.i IntKind.i64 v] true]) (Holds (okb ((fun (l : List Int) => a0 :: l) ((fun (l : List Int) => a1 :: l) ((fun (l : List Int) => a2 :: l) ((fun (l : List Int) => a3 :: l) ((fun (l : List Int) => a4 :: l) ((fun (l : List Int) => a5 :: l) ((fun (l : List Int) => a6 :: l) ((fun (l : List Int) => a7 :: l) ((fun (l : List Int) => a8 :: l) ((fun (l : List Int) => a9 :: l) ((fun (l : List Int) => a10 :: l) ((fun (l : List Int) => a11 :: l) ((fun (l : List Int) => a12 :: l) ((fun (l : List Int) => a13 :: l) ((fun (l : List Int) => a14 :: l) ((fun (l : List Int) => a15 :: l) [])))))))))))))))) ∧ List.length ((fun (l : List Int) => a0 :: l) ((fun (l : List Int) => a1 :: l) ((fun (l : List Int) => a2 :: l) ((fun (l : List Int) => a3 :: l) ((fun (l : List Int) => a4 :: l) ((fun (l : List Int) => a5 :: l) ((fun (l : List Int) => a6 :: l) ((fun (l : List Int) => a7 :: l) ((fun (l : List Int) => a8 :: l) ((fun (l : List Int) => a9 :: l) ((fun (l : List Int) => a10 :: l) ((fun (l : List Int) => a11 :: l) ((fun (l : List Int) => a12 :: l) ((fun (l : List Int) => a13 :: l) ((fun (l : List Int) => a14 :: l) ((fun (l : List Int) => a15 :: l) [])))))))))))))))) = (16 : Nat) ∧ okb ((fun (l : List Int) => a0 :: l) ((fun (l : List Int) => a1 :: l) ((fun (l : List Int) => a2 :: l) ((fun (l : List Int) => a3 :: l) ((fun (l : List Int) => a4 :: l) ((fun (l : List Int) => a5 :: l) ((fun (l : List Int) => a6 :: l) ((fun (l : List Int) => a7 :: l) ((fun (l : List Int) => a8 :: l) ((fun (l : List Int) => a9 :: l) ((fun (l : List Int) => a10 :: l) ((fun (l : List Int) => a11 :: l) ((fun (l : List Int) => a12 :: l) ((fun (l : List Int) => a13 :: l) ((fun (l : List Int) => a14 :: l) ((fun (l : List Int) => a15 :: l) [])))))))))))))))) ∧ List.length ((fun (l : List Int) => a0 :: l) ((fun (l : List Int) => a1 :: l) ((fun (l : List Int) => a2 :: l) ((fun (l : List Int) => a3 :: l) ((fun (l : List Int) => a4 :: l) ((fun (l : List Int) => a5 :: l) ((fun (l : List Int) => a6 :: l) ((fun (l : List Int) => a7 :: l) ((fun (l : List Int) => a8 :: l) ((fun (l : List Int) => a9 :: l) ((fun (l : List Int) => a10 :: l) ((fun (l : List Int) => a11 :: l) ((fun (l : List Int) => a12 :: l) ((fun (l : List Int) => a13 :: l) ((fun (l : List Int) => a14 :: l) ((fun (l : List Int) => a15 :: l) [])))))))))))))))) = (16 : Nat)) ∧ br (!B ((fun (l : List Int) => a0 :: l) ((fun (l : List Int) => a1 :: l) ((fun (l : List Int) => a2 :: l) ((fun (l : List Int) => a3 :: l) ((fun (l : List Int) => a4 :: l) ((fun (l : List Int) => a5 :: l) ((fun (l : List Int) => a6 :: l) ((fun (l : List Int) => a7 :: l) ((fun (l : List Int) => a8 :: l) ((fun (l : List Int) => a9 :: l) ((fun (l : List Int) => a10 :: l) ((fun (l : List Int) => a11 :: l) ((fun (l : List Int) => a12 :: l) ((fun (l : List Int) => a13 :: l) ((fun (l : List Int) => a14 :: l) ((fun (l : List Int) => a15 :: l) [])))))))))))))))) v ((fun (l : List Int) => a0 :: l) ((fun (l : List Int) => a1 :: l) ((fun (l : List Int) => a2 :: l) ((fun (l : List Int) => a3 :: l) ((fun (l : List Int) => a4 :: l) ((fun (l : List Int) => a5 :: l) ((fun (l : List Int) => a6 :: l) ((fun (l : List Int) => a7 :: l) ((fun (l : List Int) => a8 :: l) ((fun (l : List Int) => a9 :: l) ((fun (l : List Int) => a10 :: l) ((fun (l : List Int) => a11 :: l) ((fun (l : List Int) => a12 :: l) ((fun (l : List Int) => a13 :: l) ((fun (l : List Int) => a14 :: l) ((fun (l : List Int) => a15 :: l) []))))))))))))))))) (Holds ((17 : Nat) ≤ List.length [AV.i IntKind.u8 (0 : Int), AV.i IntKind.u8 (0 : Int), AV.i IntKind.u8 (0 : Int), AV.i IntKind.u8 (0 : Int), AV.i IntKind.u8 (0 : Int), AV.i IntKind.u8 (0 : Int), AV.i IntKind.u8 (0 : Int), AV.i IntKind.u8 (0 : Int), AV.i IntKind.u8 (0 : Int), AV.i IntKind.u8 (0 : Int), AV.i IntKind.u8 (0 : Int), AV.i IntKind.u8 (0 : Int), AV.i IntKind.u8 (0 : Int), AV.i IntKind.u8 (0 : Int), AV.i IntKind.u8 (0 : Int), AV.i IntKind.u8 (0 : Int), AV.i IntKind.i64 (0 : Int)]) ∧ R (AV.tu [AV.ag [AV.i IntKind.u8 (0 : Int), AV.i IntKind.u8 (0 : Int), AV.i IntKind.u8 (0 : Int), AV.i IntKind.u8 (0 : Int), AV.i IntKind.u8 (0 : Int), AV.i IntKind.u8 (0 : Int), AV.i IntKind.u8 (0 : Int), AV.i IntKind.u8 (0 : Int), AV.i IntKind.u8 (0 : Int), AV.i IntKind.u8 (0 : Int), AV.i IntKind.u8 (0 : Int), AV.i IntKind.u8 (0 : Int), AV.i IntKind.u8 (0 : Int), AV.i IntKind.u8 (0 : Int), AV.i IntKind.u8 (0 : Int), AV.i IntKind.u8 (0 : Int), AV.i IntKind.i64 (0 : Int)], AV.bo false]) [Blk.cells [AV.i IntKind.u8 (0 : Int), AV.i IntKind.u8 (0 : Int), AV.i IntKind.u8 (0 : Int), AV.i IntKind.u8 (0 : Int), AV.i IntKind.u8 (0 : Int), AV.i IntKind.u8 (0 : Int), AV.i IntKind.u8 (0 : Int), AV.i IntKind.u8 (0 : Int), AV.i IntKind.u8 (0 : Int), AV.i IntKind.u8 (0 : Int), AV.i IntKind.u8 (0 : Int), AV.i IntKind.u8 (0 : Int), AV.i IntKind.u8 (0 : Int), AV.i IntKind.u8 (0 : Int), AV.i IntKind.u8 (0 : Int), AV.i IntKind.u8 (0 : Int), AV.i IntKind.i64 (0 : Int)] true, Blk.cells (List.map AV.s L) true, Blk.cells [AV.i IntKind.u8 a0, AV.i IntKind.u8 a1, AV.i IntKind.u8 a2, AV.i IntKind.u8 a3, AV.i IntKind.u8 a4, AV.i IntKind.u8 a5, AV.i IntKind.u8 a6, AV.i IntKind.u8 a7, AV.i IntKind.u8 a8, AV.i IntKind.u8 a9, AV.i IntKind.u8 a10, AV.i IntKind.u8 a11, AV.i IntKind.u8 a12, AV.i IntKind.u8 a13, AV.i IntKind.u8 a14, AV.i IntKind.u8 a15] true, Blk.cells [AV.i IntKind.u8 a0, AV.i IntKind.u8 a1, AV.i IntKind.u8 a2, AV.i IntKind.u8 a3, AV.i IntKind.u8 a4, AV.i IntKind.u8 a5, AV.i IntKind.u8 a6, AV.i IntKind.u8 a7, AV.i IntKind.u8 a8, AV.i IntKind.u8 a9, AV.i IntKind.u8 a10, AV.i IntKind.u8 a11, AV.i IntKind.u8 a12, AV.i IntKind.u8 a13, AV.i IntKind.u8 a14, AV.i IntKind.u8 a15, AV.i IntKind.i64 v] true]) (Holds ((17 : Nat) ≤ List.length [AV.i IntKind.u8 (0 : Int), AV.i IntKind.u8 (0 : Int), AV.i IntKind.u8 (0 : Int), AV.i IntKind.u8 (0 : Int), AV.i IntKind.u8 (0 : Int), AV.i IntKind.u8 (0 : Int), AV.i IntKind.u8 (0 : Int), AV.i IntKind.u8 (0 : Int), AV.i IntKind.u8 (0 : Int), AV.i IntKind.u8 (0 : Int), AV.i IntKind.u8 (0 : Int), AV.i IntKind.u8 (0 : Int), AV.i IntKind.u8 (0 : Int), AV.i IntKind.u8 (0 : Int), AV.i IntKind.u8 (0 : Int), AV.i IntKind.u8 (0 : Int), AV.i IntKind.i64 (0 : Int)]) ∧ R (AV.tu [AV.ag [AV.i IntKind.u8 a0, AV.i IntKind.u8 a1, AV.i IntKind.u8 a2, AV.i IntKind.u8 a3, AV.i IntKind.u8 a4, AV.i IntKind.u8 a5, AV.i IntKind.u8 a6, AV.i IntKind.u8 a7, AV.i IntKind.u8 a8, AV.i IntKind.u8 a9, AV.i IntKind.u8 a10, AV.i IntKind.u8 a11, AV.i IntKind.u8 a12, AV.i IntKind.u8 a13, AV.i IntKind.u8 a14, AV.i IntKind.u8 a15, AV.i IntKind.i64 v], AV.bo true]) [Blk.cells [AV.i IntKind.u8 a0, AV.i IntKind.u8 a1, AV.i IntKind.u8 a2, AV.i IntKind.u8 a3, AV.i IntKind.u8 a4, AV.i IntKind.u8 a5, AV.i IntKind.u8 a6, AV.i IntKind.u8 a7, AV.i IntKind.u8 a8, AV.i IntKind.u8 a9, AV.i IntKind.u8 a10, AV.i IntKind.u8 a11, AV.i IntKind.u8 a12, AV.i IntKind.u8 a13, AV.i IntKind.u8 a14, AV.i IntKind.u8 a15, AV.i IntKind.i64 v] true, Blk.cells (List.map AV.s L) true, Blk.cells [AV.i IntKind.u8 a0, AV.i IntKind.u8 a1, AV.i IntKind.u8 a2, AV.i IntKind.u8 a3, AV.i IntKind.u8 a4, AV.i IntKind.u8 a5, AV.i IntKind.u8 a6, AV.i IntKind.u8 a7, AV.i IntKind.u8 a8, AV.i IntKind.u8 a9, AV.i IntKind.u8 a10, AV.i IntKind.u8 a11, AV.i IntKind.u8 a12, AV.i IntKind.u8 a13, AV.i IntKind.u8 a14, AV.i IntKind.u8 a15] true, Blk.cells [AV.i IntKind.u8 a0, AV.i IntKind.u8 a1, AV.i IntKind.u8 a2, AV.i IntKind.u8 a3, AV.i IntKind.u8 a4, AV.i IntKind.u8 a5, AV.i IntKind.u8 a6, AV.i IntKind.u8 a7, AV.i IntKind.u8 a8, AV.i IntKind.u8 a9, AV.i IntKind.u8 a10, AV.i IntKind.u8 a11, AV.i IntKind.u8 a12, AV.i IntKind.u8 a13, AV.i IntKind.u8 a14, AV.i IntKind.u8 a15, AV.i IntKind.i64 v] true])))) := by kernel_rfl
/-- What a reader of addresses answers; of prefixes. -/
def pAns (k : Nat) : Option (List Int) → AV
  | some l => .tu [.ag (l.map (AV.i .u8)), .bo true]
  | none => .tu [.ag (List.replicate k (.i .u8 0)), .bo false]
def nAns (k : Nat) : Option (List Int × Int) → AV
  | some (l, n) => .tu [.ag (l.map (AV.i .u8) ++ [.i .i64 n]), .bo true]
  | none => .tu [.ag (List.replicate k (.i .u8 0) ++ [.i .i64 0]), .bo false]
def pa4 (s : ByteArray) : Option (List Int) := parse4S (partsB s 46)
def pa6 (s : ByteArray) : Option (List Int) := (parse6P (splitU 58 s.data.toList)).map bytes6
theorem pa4_ans (s : ByteArray) : p4Ans (parse4S (partsB s 46)) = pAns 4 (pa4 s) := by
  unfold pa4
  cases parse4S (partsB s 46) <;> rfl
theorem pa6_ans (s : ByteArray) : p6Ans (parse6P (splitU 58 s.data.toList)) = pAns 16 (pa6 s) := by
  unfold pa6
  cases parse6P (splitU 58 s.data.toList) <;> rfl
theorem pAns_cases {k : Nat} {o : Option (List Int)} {xs : List AV} {ok : Bool} (h : pAns k o = .tu [.ag xs, .bo ok]) : (ok = true ∧ ∃ l, o = some l ∧ xs = l.map (AV.i .u8)) ∨ (ok = false ∧ o = none) := by
  cases o with
  | none =>
    simp only [pAns, AV.tu.injEq, List.cons.injEq, AV.bo.injEq, and_true] at h
    exact .inr ⟨h.2.symm, rfl⟩
  | some l =>
    simp only [pAns, AV.tu.injEq, List.cons.injEq, AV.bo.injEq, AV.ag.injEq, and_true] at h
    exact .inl ⟨h.2.symm, l, rfl, h.1.symm⟩
/-- A prefix' word, cut at its first sign. -/
def netS (B : List Int → Int → Bool) (pa : ByteArray → Option (List Int)) (mx : Int) (q : ByteArray × ByteArray × Bool) : Option (List Int × Int) := if q.2.2 = true then (match pa q.1 with
    | some l => if (decS q.2.1 mx).2 = true ∧ B l (decS q.2.1 mx).1 = true then some (l, (decS q.2.1 mx).1) else none
    | none => none) else none
/-- .. as the document reads it, in parts. -/
def netR (B : List Int → Int → List Int → Bool) (pa : ByteArray → Option (List Int)) (mx : Int) (L : List ByteArray) : Option (List Int × Int) := if L.length = 2 then (match pa (wordAt L 0) with
    | some l => if B l (numS (wordAt L 1) mx) l = true then some (l, numS (wordAt L 1) mx) else none
    | none => none) else none
theorem netS_none {B : List Int → Int → Bool} {pa : ByteArray → Option (List Int)} {mx : Int} {a b : ByteArray} (h : pa a = none) (ok : Bool) : netS B pa mx (a, b, ok) = none := by
  unfold netS; simp only [h]; split <;> rfl
def paOk (k : Nat) (pa : ByteArray → Option (List Int)) : Prop := ∀ t l, pa t = some l → okb l ∧ l.length = k
set_option maxRecDepth 100000 in
theorem run29 {s : ByteArray} (hs : s.size ≤ 4096) (C : ByteArray → ByteArray → ByteArray × ByteArray × Bool) (hC : (C s ⟨#[47]⟩).1.size ≤ 4096) (pa : ByteArray → Option (List Int)) (hpa : paOk 4 pa) (B : List Int → Int → Bool) : Holds (wpFn P (tcons 42 (tcut C) (tcons 13 (tpp4 fun s => pAns 4 (pa s)) (tcons 40 (tdec decS) (tcons 49 (tright 4 B) tnil)))) noW noL 0 Go.Proofs.Tryd.f29 [.s s] [] fun v _ => v = nAns 4 (netS B pa 32 (C s ⟨#[47]⟩))) := by
  refine ⟨?_⟩
  rw [vc29]
  simp only [↓br_ite, ↓reduceIte, holds_eq, List.getElem?_cons_zero, List.getElem?_cons_succ, Option.some.injEq, AV.i.injEq, AV.s.injEq, AV.bo.injEq, true_and, and_true, List.cons.injEq, List.length_cons, List.length_nil, and_assoc, exists_and_left, exists_eq_left', exists_eq_left, br_true, br_false, Nat.zero_add, Nat.add_zero, Nat.reduceAdd, Nat.reduceLeDiff, Nat.le_refl, numsOf_one, beq_self_eq_true, Int.reduceLE, Int.reduceLT, Int.reduceAdd, Int.reduceSub, Int.reduceMul, Int.reduceNeg, Int.reduceToNat, Int.reducePow, Int.reduceMod, Int.reduceDiv, Int.cast_ofNat_Int, Int.reduceBEq, i64w, decide_true, decide_false, Int.le_refl, Nat.min_def, reduceIte, Int.one_mul, bits64, Int.natCast_add, Bool.false_eq_true, wk_and]
  refine ⟨hs, ?_⟩
  intro a b ok hc
  rw [hc] at hC ⊢
  refine ⟨hC, ?_⟩
  intro a0 a1 a2 a3 ok1 ha v ok2 hd
  cases ok with
  | false => rw [if_pos (show (!false) = true from rfl)]; rfl
  | true =>
    rw [if_neg (by simp)]
    rcases pAns_cases ha with ⟨rfl, l, hl, hx⟩ | ⟨rfl, hl⟩
    · rw [if_neg (by simp)]
      obtain rfl : l = [a0, a1, a2, a3] := map_u8_inj hx.symm
      have e : netS B pa 32 (a, b, true) = if ok2 = true ∧ B [a0, a1, a2, a3] v = true then some ([a0, a1, a2, a3], v) else none := by
        unfold netS
        simp only [hl, hd, ↓reduceIte]
      rw [e]
      cases ok2 with
      | false => rw [if_pos (show (!false) = true from rfl)]; rfl
      | true =>
        rw [if_neg (by simp)]
        refine ⟨(hpa _ _ hl).1, ?_⟩
        cases hB : B [a0, a1, a2, a3] v with
        | false => rw [if_pos (show (!false) = true from rfl)]; rfl
        | true => rw [if_neg (by simp), if_pos ⟨rfl, rfl⟩]; rfl
    · rw [if_pos (show (!false) = true from rfl), netS_none hl]; rfl
set_option maxRecDepth 100000 in
theorem run24 {s : ByteArray} (hs : s.size ≤ 4096) (C : ByteArray → ByteArray → ByteArray × ByteArray × Bool) (hC : (C s ⟨#[47]⟩).1.size ≤ 4096) (pa : ByteArray → Option (List Int)) (hpa : paOk 16 pa) (B : List Int → Int → Bool) : Holds (wpFn P (tcons 42 (tcut C) (tcons 15 (tpp16 fun s => pAns 16 (pa s)) (tcons 40 (tdec decS) (tcons 47 (tright 16 B) tnil)))) noW noL 0 Go.Proofs.Tryd.f24 [.s s] [] fun v _ => v = nAns 16 (netS B pa 128 (C s ⟨#[47]⟩))) := by
  refine ⟨?_⟩
  rw [vc24]
  simp only [↓br_ite, ↓reduceIte, holds_eq, List.getElem?_cons_zero, List.getElem?_cons_succ, Option.some.injEq, AV.i.injEq, AV.s.injEq, AV.bo.injEq, true_and, and_true, List.cons.injEq, List.length_cons, List.length_nil, and_assoc, exists_and_left, exists_eq_left', exists_eq_left, br_true, br_false, Nat.zero_add, Nat.add_zero, Nat.reduceAdd, Nat.reduceLeDiff, Nat.le_refl, numsOf_one, beq_self_eq_true, Int.reduceLE, Int.reduceLT, Int.reduceAdd, Int.reduceSub, Int.reduceMul, Int.reduceNeg, Int.reduceToNat, Int.reducePow, Int.reduceMod, Int.reduceDiv, Int.cast_ofNat_Int, Int.reduceBEq, i64w, decide_true, decide_false, Int.le_refl, Nat.min_def, reduceIte, Int.one_mul, bits64, Int.natCast_add, Bool.false_eq_true, wk_and]
  refine ⟨hs, ?_⟩
  intro a b ok hc
  rw [hc] at hC ⊢
  refine ⟨hC, ?_⟩
  intro a0 a1 a2 a3 a4 a5 a6 a7 a8 a9 a10 a11 a12 a13 a14 a15 ok1 ha v ok2 hd
  cases ok with
  | false => rw [if_pos (show (!false) = true from rfl)]; rfl
  | true =>
    rw [if_neg (by simp)]
    rcases pAns_cases ha with ⟨rfl, l, hl, hx⟩ | ⟨rfl, hl⟩
    · rw [if_neg (by simp)]
      obtain rfl : l = [a0, a1, a2, a3, a4, a5, a6, a7, a8, a9, a10, a11, a12, a13, a14, a15] := map_u8_inj hx.symm
      have e : netS B pa 128 (a, b, true) = if ok2 = true ∧ B [a0, a1, a2, a3, a4, a5, a6, a7, a8, a9, a10, a11, a12, a13, a14, a15] v = true then some ([a0, a1, a2, a3, a4, a5, a6, a7, a8, a9, a10, a11, a12, a13, a14, a15], v) else none := by
        unfold netS
        simp only [hl, hd, ↓reduceIte]
      rw [e]
      cases ok2 with
      | false => rw [if_pos (show (!false) = true from rfl)]; rfl
      | true =>
        rw [if_neg (by simp)]
        refine ⟨(hpa _ _ hl).1, ?_⟩
        cases hB : B [a0, a1, a2, a3, a4, a5, a6, a7, a8, a9, a10, a11, a12, a13, a14, a15] v with
        | false => rw [if_pos (show (!false) = true from rfl)]; rfl
        | true => rw [if_neg (by simp), if_pos ⟨rfl, rfl⟩]; rfl
    · rw [if_pos (show (!false) = true from rfl), netS_none hl]; rfl
set_option maxRecDepth 100000 in
theorem run30 {s : ByteArray} (hs : s.size ≤ 4096) (Sp : ByteArray → Int → List ByteArray) (hz : ∀ t ∈ Sp s 47, t.size ≤ 4096) (hz' : (Sp s 47).length ≤ 4097) (pa : ByteArray → Option (List Int)) (hpa : paOk 4 pa) (B : List Int → Int → List Int → Bool) : Holds (wpFn P (tcons 51 (tpartsR Sp) (tcons 27 (tpp4 fun s => pAns 4 (pa s)) (tcons 52 (tnum numS) (tcons 33 (tnet 4 B) tnil)))) (Wpn 30) noL 0 Go.Proofs.Tryd.f30 [.s s] [] fun v _ => v = nAns 4 (netR B pa 32 (Sp s 47))) := by
  refine ⟨?_⟩
  rw [vc30]
  simp only [↓br_ite, ↓reduceIte, holds_eq, List.getElem?_cons_zero, List.getElem?_cons_succ, Option.some.injEq, AV.i.injEq, AV.s.injEq, AV.bo.injEq, true_and, and_true, List.cons.injEq, List.length_cons, List.length_nil, and_assoc, exists_and_left, exists_eq_left', exists_eq_left, br_true, br_false, Nat.zero_add, Nat.add_zero, Nat.reduceAdd, Nat.reduceLeDiff, Nat.le_refl, numsOf_one, beq_self_eq_true, Int.reduceLE, Int.reduceLT, Int.reduceAdd, Int.reduceSub, Int.reduceMul, Int.reduceNeg, Int.reduceToNat, Int.reducePow, Int.reduceMod, Int.reduceDiv, Int.cast_ofNat_Int, Int.reduceBEq, i64w, decide_true, decide_false, Int.le_refl, Nat.min_def, reduceIte, Int.one_mul, bits64, Int.natCast_add, Bool.false_eq_true, wk_and]
  refine ⟨hs, ?_⟩
  intro L hL
  rw [hL] at hz hz' ⊢
  split
  · rename_i h2
    unfold netR
    rw [if_neg (fun e => by rw [e] at h2; simp at h2)]
    rfl
  rename_i h2
  have h2 : L.length = 2 := by simp only [bne_iff_ne, ne_eq, Decidable.not_not] at h2; omega
  have w0 : (L.map AV.s)[0]? = some (.s (wordAt L 0)) := word_get (k := 0) (by omega)
  have w1 : (L.map AV.s)[1]? = some (.s (wordAt L 1)) := word_get (k := 1) (by omega)
  have m0 : wordAt L 0 ∈ L := by
    rw [wordAt, List.getD_eq_getElem?_getD, List.getElem?_eq_getElem (by omega : 0 < L.length)]
    exact List.getElem_mem _
  refine ⟨by omega, _, w0, hz _ m0, ?_⟩
  intro a0 a1 a2 a3 ok1 ha
  refine ⟨by omega, _, w1, ?_⟩
  intro v hd
  subst hd
  refine ⟨fun v1 h => by subst h; rfl, ?_⟩
  rcases pAns_cases ha with ⟨rfl, l, hl, hx⟩ | ⟨rfl, hl⟩
  · rw [if_neg (by simp)]
    obtain rfl : l = [a0, a1, a2, a3] := map_u8_inj hx.symm
    have e : netR B pa 32 L = if B [a0, a1, a2, a3] (numS (wordAt L 1) 32) [a0, a1, a2, a3] = true then some ([a0, a1, a2, a3], numS (wordAt L 1) 32) else none := by
      unfold netR
      rw [if_pos h2]
      simp only [hl]
    rw [e]
    obtain ⟨k1, k2⟩ := hpa _ _ hl
    refine ⟨k1, k1, ?_⟩
    cases hB : B [a0, a1, a2, a3] (numS (wordAt L 1) 32) [a0, a1, a2, a3] with
    | false => rw [if_pos (show (!false) = true from rfl)]; rfl
    | true => rw [if_neg (by simp), if_pos rfl]; rfl
  · rw [if_pos (show (!false) = true from rfl)]
    unfold netR
    rw [if_pos h2]
    simp only [hl]
    rfl
set_option maxRecDepth 100000 in
theorem run31 {s : ByteArray} (hs : s.size ≤ 4096) (Sp : ByteArray → Int → List ByteArray) (hz : ∀ t ∈ Sp s 47, t.size ≤ 4096) (hz' : (Sp s 47).length ≤ 4097) (pa : ByteArray → Option (List Int)) (hpa : paOk 16 pa) (B : List Int → Int → List Int → Bool) : Holds (wpFn P (tcons 51 (tpartsR Sp) (tcons 28 (tpp16 fun s => pAns 16 (pa s)) (tcons 52 (tnum numS) (tcons 34 (tnet 16 B) tnil)))) (Wpn 31) noL 0 Go.Proofs.Tryd.f31 [.s s] [] fun v _ => v = nAns 16 (netR B pa 128 (Sp s 47))) := by
  refine ⟨?_⟩
  rw [vc31]
  simp only [↓br_ite, ↓reduceIte, holds_eq, List.getElem?_cons_zero, List.getElem?_cons_succ, Option.some.injEq, AV.i.injEq, AV.s.injEq, AV.bo.injEq, true_and, and_true, List.cons.injEq, List.length_cons, List.length_nil, and_assoc, exists_and_left, exists_eq_left', exists_eq_left, br_true, br_false, Nat.zero_add, Nat.add_zero, Nat.reduceAdd, Nat.reduceLeDiff, Nat.le_refl, numsOf_one, beq_self_eq_true, Int.reduceLE, Int.reduceLT, Int.reduceAdd, Int.reduceSub, Int.reduceMul, Int.reduceNeg, Int.reduceToNat, Int.reducePow, Int.reduceMod, Int.reduceDiv, Int.cast_ofNat_Int, Int.reduceBEq, i64w, decide_true, decide_false, Int.le_refl, Nat.min_def, reduceIte, Int.one_mul, bits64, Int.natCast_add, Bool.false_eq_true, wk_and]
  refine ⟨hs, ?_⟩
  intro L hL
  rw [hL] at hz hz' ⊢
  split
  · rename_i h2
    unfold netR
    rw [if_neg (fun e => by rw [e] at h2; simp at h2)]
    rfl
  rename_i h2
  have h2 : L.length = 2 := by simp only [bne_iff_ne, ne_eq, Decidable.not_not] at h2; omega
  have w0 : (L.map AV.s)[0]? = some (.s (wordAt L 0)) := word_get (k := 0) (by omega)
  have w1 : (L.map AV.s)[1]? = some (.s (wordAt L 1)) := word_get (k := 1) (by omega)
  have m0 : wordAt L 0 ∈ L := by
    rw [wordAt, List.getD_eq_getElem?_getD, List.getElem?_eq_getElem (by omega : 0 < L.length)]
    exact List.getElem_mem _
  refine ⟨by omega, _, w0, hz _ m0, ?_⟩
  intro a0 a1 a2 a3 a4 a5 a6 a7 a8 a9 a10 a11 a12 a13 a14 a15 ok1 ha
  refine ⟨by omega, _, w1, ?_⟩
  intro v hd
  subst hd
  refine ⟨fun v1 h => by subst h; rfl, ?_⟩
  rcases pAns_cases ha with ⟨rfl, l, hl, hx⟩ | ⟨rfl, hl⟩
  · rw [if_neg (by simp)]
    obtain rfl : l = [a0, a1, a2, a3, a4, a5, a6, a7, a8, a9, a10, a11, a12, a13, a14, a15] := map_u8_inj hx.symm
    have e : netR B pa 128 L = if B [a0, a1, a2, a3, a4, a5, a6, a7, a8, a9, a10, a11, a12, a13, a14, a15] (numS (wordAt L 1) 128) [a0, a1, a2, a3, a4, a5, a6, a7, a8, a9, a10, a11, a12, a13, a14, a15] = true then some ([a0, a1, a2, a3, a4, a5, a6, a7, a8, a9, a10, a11, a12, a13, a14, a15], numS (wordAt L 1) 128) else none := by
      unfold netR
      rw [if_pos h2]
      simp only [hl]
    rw [e]
    obtain ⟨k1, k2⟩ := hpa _ _ hl
    refine ⟨k1, k1, ?_⟩
    cases hB : B [a0, a1, a2, a3, a4, a5, a6, a7, a8, a9, a10, a11, a12, a13, a14, a15] (numS (wordAt L 1) 128) [a0, a1, a2, a3, a4, a5, a6, a7, a8, a9, a10, a11, a12, a13, a14, a15] with
    | false => rw [if_pos (show (!false) = true from rfl)]; rfl
    | true => rw [if_neg (by simp), if_pos rfl]; rfl
  · rw [if_pos (show (!false) = true from rfl)]
    unfold netR
    rw [if_pos h2]
    simp only [hl]
    rfl
theorem splitU_mem_len {c : UInt8} : ∀ {l w : List UInt8}, w ∈ splitU c l → w.length ≤ l.length
  | [], w, h => by simp [splitU] at h; subst h; simp
  | x :: l, w, h => by
    by_cases hx : x = c
    · subst hx
      rw [splitU_hit] at h
      rcases List.mem_cons.1 h with rfl | h
      · simp
      · have := splitU_mem_len h; simp only [List.length_cons]; omega
    · rw [splitU_miss hx] at h
      cases e : splitU c l with
      | nil => exact absurd e (splitU_ne _ _)
      | cons a b =>
        rw [e] at h
        rcases List.mem_cons.1 h with rfl | h
        · have : a ∈ splitU c l := by rw [e]; simp
          have := splitU_mem_len this
          simp only [List.length_cons]; omega
        · have : w ∈ splitU c l := by rw [e]; simp [h]
          have := splitU_mem_len this
          simp only [List.length_cons]; omega
theorem splitU_more (c : UInt8) : ∀ (l : List UInt8), (splitU c l = [l]) ∨ (c ∈ l ∧ 2 ≤ (splitU c l).length)
  | [] => .inl rfl
  | x :: l => by
    by_cases hx : x = c
    · subst hx
      rw [splitU_hit]
      have := List.length_pos_iff.2 (splitU_ne x l)
      exact .inr ⟨by simp, by simp only [List.length_cons]; omega⟩
    · rw [splitU_miss hx]
      rcases splitU_more c l with e | ⟨h1, h2⟩
      · rw [e]; exact .inl rfl
      · right
        cases e : splitU c l with
        | nil => exact absurd e (splitU_ne _ _)
        | cons a b => rw [e] at h2; exact ⟨by simp [h1], by simpa using h2⟩
theorem decS_sign {s : ByteArray} (h : (47 : UInt8) ∈ s.data.toList) (most : Int) : (decS s most).2 = false := by
  obtain ⟨k, hk, e⟩ := List.getElem_of_mem h
  have hk' : k < s.size := by rw [← size_list]; exact hk
  unfold decS
  rw [dig_bad hk' (by rw [List.getD_eq_getElem?_getD, List.getElem?_eq_getElem hk, Option.getD_some, e]; rfl)]
  rfl
theorem Hv_same (l : List Int) (n : Int) : Hv l l n = true := by simp [Hv]
theorem ofL_size (l : List UInt8) : (ofL l).size = l.length := by rw [← size_list]; rfl
theorem net_eq {pa : ByteArray → Option (List Int)} {mx : Int} (s : ByteArray) : netR (Hn mx) pa mx (partsB s 47) = netS (Rv mx) pa mx (cutF s ⟨#[47]⟩) := by
  unfold netR partsB
  rcases cut_U 47 s.data.toList with ⟨h1, h2⟩ | ⟨i, hi, h1, h2⟩
  · rw [h2, if_neg (by simp), netS, cutF, show (⟨#[47]⟩ : ByteArray).data.toList = [47] from rfl, h1]; rfl
  · have ec : cutF s ⟨#[47]⟩ = (ofL (s.data.toList.take i), ofL (s.data.toList.drop (i + 1)), true) := by
      rw [cutF, show (⟨#[47]⟩ : ByteArray).data.toList = [47] from rfl, h1]; rfl
    rw [ec, h2, netS]
    simp only [↓reduceIte]
    rcases splitU_more 47 (s.data.toList.drop (i + 1)) with e | ⟨m1, m2⟩
    · rw [e, if_pos (by rfl)]
      simp only [List.map_cons, List.map_nil, wordAt, List.getD_cons_zero, List.getD_cons_succ]
      cases pa (ofL (s.data.toList.take i)) with
      | none => rfl
      | some l =>
        simp only
        generalize ofL (s.data.toList.drop (i + 1)) = t
        unfold numS Hn
        rw [Hv_same, Bool.and_true]
        cases (decS t mx).2 with
        | true => simp
        | false =>
          have : Rv mx l (-1) = false := by simp [Rv]
          simp [this]
    · rw [if_neg (by simp only [List.length_map, List.length_cons]; omega)]
      cases pa (ofL (s.data.toList.take i)) with
      | none => rfl
      | some l =>
        simp only
        rw [decS_sign (s := ofL (s.data.toList.drop (i + 1))) (by rw [ofL, List.toList_toArray]; exact m1), if_neg (by simp)]
theorem pa4_ok : paOk 4 pa4 := by
  intro t l h
  unfold pa4 parse4S at h
  split at h
  · rename_i hc
    simp only [Option.some.injEq] at h
    subst h
    refine ⟨fun i hi => ?_, curL_len _ _⟩
    rw [curL_len] at hi
    have hd := List.all_eq_true.1 hc.2 i (List.mem_range.2 hi)
    have := decS_range (s := wordAt (partsB t 46) i) (most := 255) (v := (decS (wordAt (partsB t 46) i) 255).1) (by rw [← hd])
    rw [List.getD_eq_getElem?_getD, curL, List.getElem?_map, List.getElem?_range hi, Option.map_some, Option.getD_some, if_pos hi]
    exact this
  · cases h
theorem laid6_b16 {x y : List Int} (hx : b16 x) (hy : b16 y) : b16 (laid6 x y) := by
  intro v hv
  unfold laid6 at hv
  simp only [List.mem_append, List.mem_replicate] at hv
  rcases hv with hv | ⟨_, rfl⟩ | hv
  · exact hx v hv
  · omega
  · exact hy v hv
theorem hexesP_b16 {ws : List (List UInt8)} {l : List Int} (h : hexesP ws = some l) : b16 l := by
  unfold hexesP at h
  split at h
  · cases h; intro v hv; simp at hv
  · exact all6_b16 h
theorem parse6P_b16 {ws : List (List UInt8)} {gs : List Int} (h : parse6P ws = some gs) : b16 gs := by
  unfold parse6P at h
  split at h
  · split at h
    · rename_i l hl
      split at h
      · cases h; exact hexesP_b16 hl
      · cases h
    · cases h
  · split at h
    · cases h
    · rename_i x hx
      split at h
      · cases h
      · rename_i y hy
        split at h
        · cases h; exact laid6_b16 (hexesP_b16 hx) (hexesP_b16 hy)
        · cases h
theorem bytes6_ok {gs : List Int} (h : b16 gs) : okb (bytes6 gs) ∧ (bytes6 gs).length = 16 := by
  refine ⟨fun i hi => ?_, rowF_len _⟩
  rw [show (bytes6 gs).length = 16 from rowF_len _] at hi
  rw [List.getD_eq_getElem?_getD, bytes6, rowF, List.getElem?_map, List.getElem?_range hi, Option.map_some, Option.getD_some]
  have hv : 0 ≤ gs.getD (i / 2) 0 ∧ gs.getD (i / 2) 0 ≤ 65535 := by
    rw [List.getD_eq_getElem?_getD]
    cases e : gs[i / 2]? with
    | none => simp
    | some v => exact h v (List.mem_of_getElem? e)
  split <;> omega
theorem pa6_ok : paOk 16 pa6 := by
  intro t l h
  unfold pa6 at h
  obtain ⟨gs, hg, rfl⟩ := Option.map_eq_some_iff.1 h
  exact bytes6_ok (parse6P_b16 hg)
theorem tpp4_f : FollowsF (tpp4 fun s => pAns 4 (pa4 s)) (Cof CP4) := by
  refine follows_of (Splain.det mkS1_inj) fun args h K hk => ?_
  unfold tpp4 at hk
  split at hk
  · rename_i s
    obtain ⟨⟨h1⟩, hk⟩ := hk
    refine ⟨_, _, ⟨rfl, s, rfl, h1, rfl⟩, ?_⟩
    show K (p4Ans (parse4S (partsB s 46))) h
    rw [pa4_ans]
    cases e : pa4 s with
    | none => exact hk 0 0 0 0 false ⟨by show pAns _ _ = _; rw [e]; rfl⟩
    | some l =>
      have hl := (pa4_ok _ _ e).2
      match l, hl with
      | [a, b, c, d], _ => exact hk a b c d true ⟨by show pAns _ _ = _; rw [e]; rfl⟩
  · exact hk.elim
theorem tpp16_f : FollowsF (tpp16 fun s => pAns 16 (pa6 s)) (Cof CP6) := by
  refine follows_of (Splain.det mkS1_inj) fun args h K hk => ?_
  unfold tpp16 at hk
  split at hk
  · rename_i s
    obtain ⟨⟨h1⟩, hk⟩ := hk
    refine ⟨_, _, ⟨rfl, s, rfl, h1, rfl⟩, ?_⟩
    show K (p6Ans (parse6P (splitU 58 s.data.toList))) h
    rw [pa6_ans]
    cases e : pa6 s with
    | none => exact hk 0 0 0 0 0 0 0 0 0 0 0 0 0 0 0 0 false ⟨by show pAns _ _ = _; rw [e]; rfl⟩
    | some l =>
      have hl := (pa6_ok _ _ e).2
      match l, hl with
      | [a, b, c, d, e1, f, g, i, j, k, m, n, o, p, q, r], _ => exact hk a b c d e1 f g i j k m n o p q r true ⟨by show pAns _ _ = _; rw [e]; rfl⟩
  · exact hk.elim
theorem nAns_flat (k : Nat) (o : Option (List Int × Int)) : (nAns k o).under 0 = true := by
  cases o with
  | none =>
    show (AV.unders 0 (List.replicate k (.i .u8 0) ++ [.i .i64 0]) && true) = true
    rw [Bool.and_true, unders_append]
    have : AV.unders 0 (List.replicate k (AV.i .u8 0)) = true := by
      induction k with
      | zero => rfl
      | succ k ih => rw [List.replicate_succ]; exact ih
    rw [this]; rfl
  | some q =>
    obtain ⟨l, n⟩ := q
    show (AV.unders 0 (l.map (AV.i .u8) ++ [.i .i64 n]) && true) = true
    rw [Bool.and_true, unders_append, unders_map 0 _ (fun _ => rfl) _]; rfl
abbrev CN4 := Splain mkS1 (fun s => s.size ≤ 4096) fun s => nAns 4 (netS (Rv 32) pa4 32 (cutF s ⟨#[47]⟩))
abbrev CN6 := Splain mkS1 (fun s => s.size ≤ 4096) fun s => nAns 16 (netS (Rv 128) pa6 128 (cutF s ⟨#[47]⟩))
theorem fn29 : fnOk1 P noW 29 Go.Proofs.Tryd.f29 := ⟨Go.Proofs.Tryd.func29, by kernel_rfl, by kernel_rfl, by kernel_rfl⟩
theorem fn24 : fnOk1 P noW 24 Go.Proofs.Tryd.f24 := ⟨Go.Proofs.Tryd.func24, by kernel_rfl, by kernel_rfl, by kernel_rfl⟩
theorem fn30 : fnOk1 P (Wpn 30) 30 Go.Proofs.Tryd.f30 := ⟨Go.Proofs.Tryd.func30, by kernel_rfl, by kernel_rfl, by kernel_rfl⟩
theorem fn31 : fnOk1 P (Wpn 31) 31 Go.Proofs.Tryd.f31 := ⟨Go.Proofs.Tryd.func31, by kernel_rfl, by kernel_rfl, by kernel_rfl⟩
theorem cutF_one (s : ByteArray) : (cutF s ⟨#[47]⟩).1.size ≤ s.size := by
  have hl : s.data.toList.length = s.size := size_list s
  rcases cut_U 47 s.data.toList with ⟨h1, h2⟩ | ⟨i, hi, h1, h2⟩
  · rw [cutF, show (⟨#[47]⟩ : ByteArray).data.toList = [47] from rfl, h1]
    show (ofL s.data.toList).size ≤ _
    rw [ofL_size]; omega
  · rw [cutF, show (⟨#[47]⟩ : ByteArray).data.toList = [47] from rfl, h1]
    show (ofL (s.data.toList.take i)).size ≤ _
    rw [ofL_size, List.length_take]; omega
set_option maxRecDepth 100000 in
theorem net29_s : SoundF P 29 (Cof CN4) := SoundF.plainH (follows_cons tcut_f (follows_cons tpp4_f (follows_cons tdec_f (follows_cons tright_f (follows_nil _))))) (with1_sound (fnOkB_ok (by kernel_rfl)) cut_s (with1_sound fn13.ok parse4_s (with1_sound fn40.ok decimal_s (with1_sound fn49.ok right49_s (noEnv_sound _))))) mo fn29 (fun _ => rfl) (fun _ => nAns_flat _ _) noL fun s hs => run29 hs cutF (Nat.le_trans (cutF_one s) hs) pa4 pa4_ok (Rv 32)
set_option maxRecDepth 100000 in
theorem net24_s : SoundF P 24 (Cof CN6) := SoundF.plainH (follows_cons tcut_f (follows_cons tpp16_f (follows_cons tdec_f (follows_cons tright_f (follows_nil _))))) (with1_sound (fnOkB_ok (by kernel_rfl)) cut_s (with1_sound fn15.ok parse6_s (with1_sound fn40.ok decimal_s (with1_sound fn47.ok right47_s (noEnv_sound _))))) mo fn24 (fun _ => rfl) (fun _ => nAns_flat _ _) noL fun s hs => run24 hs cutF (Nat.le_trans (cutF_one s) hs) pa6 pa6_ok (Rv 128)
theorem parts_small {s : ByteArray} (hs : s.size ≤ 4096) : (∀ t ∈ partsI s 47, t.size ≤ 4096) ∧ (partsI s 47).length ≤ 4097 := by
  have e : partsI s 47 = partsB s 47 := rfl
  rw [e]
  refine ⟨fun t ht => ?_, by have := partsB_len s 47; omega⟩
  unfold partsB at ht
  obtain ⟨w, hw, rfl⟩ := List.mem_map.1 ht
  have := splitU_mem_len hw
  rw [size_list] at this
  rw [ofL_size]; omega
set_option maxRecDepth 100000 in
theorem net30_s : SoundF P 30 (Cof CN4) := by
  refine SoundF.plainH (follows_cons tpartsR_f (follows_cons tpp4_f (follows_cons tnum_f (follows_cons tnet_f (follows_nil _))))) (with1_sound fn51.ok split51_s (with1_sound fn27.ok parse4R_s (with1_sound fn52.ok number_s (with1_sound fn33.ok hold33_s (noEnv_sound _))))) mo fn30 (fun _ => rfl) (fun _ => nAns_flat _ _) noL fun s hs => ?_
  rw [← net_eq s]
  exact run30 hs partsI (parts_small hs).1 (parts_small hs).2 pa4 pa4_ok (Hn 32)
set_option maxRecDepth 100000 in
theorem net31_s : SoundF P 31 (Cof CN6) := by
  refine SoundF.plainH (follows_cons tpartsR_f (follows_cons tpp16_f (follows_cons tnum_f (follows_cons tnet_f (follows_nil _))))) (with1_sound fn51.ok split51_s (with1_sound fn28.ok parse6R_s (with1_sound fn52.ok number_s (with1_sound fn34.ok hold34_s (noEnv_sound _))))) mo fn31 (fun _ => rfl) (fun _ => nAns_flat _ _) noL fun s hs => ?_
  rw [← net_eq s]
  exact run31 hs partsI (parts_small hs).1 (parts_small hs).2 pa6 pa6_ok (Hn 128)
end Go.Proofs.YtohaalilplngnaaDoor.ClassRun
