/- Numbers are written -/
import Derived.Test.YtiknpjblmihmkaaDoorNumUtil
set_option linter.unusedVariables false
set_option linter.unusedSimpArgs false
open Go Go.Proofs.YtiknpjblmihmkaaDoor.Eng Go.RowKit
namespace Go.Proofs.YtiknpjblmihmkaaDoor.NumRun
/-- A loop that is never come to. -/
def nowhere (r0 : Nat) : Nat → Option Head := fun r => if r = r0 then some (Head.one (Get.int 999) fun _ => ⟨[], []⟩) else none
/-- A number's bytes, or a fault. -/
def tbig (G : Int → Int → Bool) (B : Int → Int → ByteArray) (Cd : Int → Int → Int) (args : List AV) (h : Hp) (K : AV → Hp → Prop) : Prop := match args with
  | [.i .i64 x, .i .i64 n] => br (G x n) (K (.tu [.s (B x n), .ni]) h) (lenK h fun m => K (.tu [.s ⟨#[]⟩, .ic 23 (.p m 0)]) (h ++ [.cells [.i .i64 (Cd x n), .i .i64 0] true]))
  | _ => False
/-- The document's. -/
def trbig (B : Int → Int → ByteArray) (Cd : Int → Int → Int) (args : List AV) (h : Hp) (K : AV → Hp → Prop) : Prop := match args with
  | [.i .i64 x, .i .i64 n] => K (.tu [.s (B x n), .i .i64 (Cd x n)]) h
  | _ => False
abbrev TW (G : Int → Int → Bool) (B : Int → Int → ByteArray) (Cd : Int → Int → Int) : TEnv :=
  tcons 10 (tconst (.bo true)) (tcons 15 (tbig G B Cd) (tcons 16 (trbig B Cd) (tcons 17 (tof Csame) tnil)))
theorem vc15 (x n : Int) (R : AV → Hp → Prop) : (wpFn P tnil noW (nowhere 7) 0 Go.Proofs.Tryd.f15 [.i .i64 x, .i .i64 n] [] R) = (br (n != (1 : Int)) (br (n != (2 : Int)) (br (n != (4 : Int)) (R (AV.tu [AV.s (⟨#[]⟩ : ByteArray), AV.ic (23 : Nat) (AV.p (0 : Nat) (0 : Nat))]) [Blk.cells [AV.i IntKind.i64 (1 : Int), AV.i IntKind.i64 (0 : Int)] true]) (br (decide (x < (0 : Int))) (R (AV.tu [AV.s (⟨#[]⟩ : ByteArray), AV.ic (23 : Nat) (AV.p (0 : Nat) (0 : Nat))]) [Blk.cells [AV.i IntKind.i64 (13 : Int), AV.i IntKind.i64 (0 : Int)] true]) (Holds ((0 : Int) ≤ IntKind.wrap IntKind.i64 ((8 : Int) * n)) ∧ br (decide (x ≥ IntKind.wrap IntKind.i64 ((1 : Int) * (2 : Int) ^ min (Int.toNat (IntKind.wrap IntKind.i64 ((8 : Int) * n))) (IntKind.bits IntKind.i64)))) (R (AV.tu [AV.s (⟨#[]⟩ : ByteArray), AV.ic (23 : Nat) (AV.p (0 : Nat) (0 : Nat))]) [Blk.cells [AV.i IntKind.i64 (13 : Int), AV.i IntKind.i64 (0 : Int)] true]) (Holds ((0 : Int) ≤ n ∧ n ≤ n ∧ n ≤ (549755813888 : Int)) ∧ False)))) (br (decide (x < (0 : Int))) (R (AV.tu [AV.s (⟨#[]⟩ : ByteArray), AV.ic (23 : Nat) (AV.p (0 : Nat) (0 : Nat))]) [Blk.cells [AV.i IntKind.i64 (13 : Int), AV.i IntKind.i64 (0 : Int)] true]) (Holds ((0 : Int) ≤ IntKind.wrap IntKind.i64 ((8 : Int) * n)) ∧ br (decide (x ≥ IntKind.wrap IntKind.i64 ((1 : Int) * (2 : Int) ^ min (Int.toNat (IntKind.wrap IntKind.i64 ((8 : Int) * n))) (IntKind.bits IntKind.i64)))) (R (AV.tu [AV.s (⟨#[]⟩ : ByteArray), AV.ic (23 : Nat) (AV.p (0 : Nat) (0 : Nat))]) [Blk.cells [AV.i IntKind.i64 (13 : Int), AV.i IntKind.i64 (0 : Int)] true]) (Holds ((0 : Int) ≤ n ∧ n ≤ n ∧ n ≤ (549755813888 : Int)) ∧ False)))) (br (decide (x < (0 : Int))) (R (AV.tu [AV.s (⟨#[]⟩ : ByteArray), AV.ic (23 : Nat) (AV.p (0 : Nat) (0 : Nat))]) [Blk.cells [AV.i IntKind.i64 (13 : Int), AV.i IntKind.i64 (0 : Int)] true]) (Holds ((0 : Int) ≤ IntKind.wrap IntKind.i64 ((8 : Int) * n)) ∧ br (decide (x ≥ IntKind.wrap IntKind.i64 ((1 : Int) * (2 : Int) ^ min (Int.toNat (IntKind.wrap IntKind.i64 ((8 : Int) * n))) (IntKind.bits IntKind.i64)))) (R (AV.tu [AV.s (⟨#[]⟩ : ByteArray), AV.ic (23 : Nat) (AV.p (0 : Nat) (0 : Nat))]) [Blk.cells [AV.i IntKind.i64 (13 : Int), AV.i IntKind.i64 (0 : Int)] true]) (Holds ((0 : Int) ≤ n ∧ n ≤ n ∧ n ≤ (549755813888 : Int)) ∧ False)))) := by kernel_rfl
theorem vc15a (x : Int) (R : AV → Hp → Prop) : (wpFn P tnil noW noL 0 Go.Proofs.Tryd.f15 [.i .i64 x, .i .i64 1] [] R) = (br (decide (x < (0 : Int))) (R (AV.tu [AV.s (⟨#[]⟩ : ByteArray), AV.ic (23 : Nat) (AV.p (0 : Nat) (0 : Nat))]) [Blk.cells [AV.i IntKind.i64 (13 : Int), AV.i IntKind.i64 (0 : Int)] true]) (Holds ((0 : Int) ≤ (8 : Int)) ∧ br (decide (x ≥ IntKind.wrap IntKind.i64 ((1 : Int) * (2 : Int) ^ min (Int.toNat (IntKind.wrap IntKind.i64 ((8 : Int) * (1 : Int)))) (IntKind.bits IntKind.i64)))) (R (AV.tu [AV.s (⟨#[]⟩ : ByteArray), AV.ic (23 : Nat) (AV.p (0 : Nat) (0 : Nat))]) [Blk.cells [AV.i IntKind.i64 (13 : Int), AV.i IntKind.i64 (0 : Int)] true]) (Holds ((0 : Int) ≤ (1 : Int) ∧ (1 : Int) ≤ (1 : Int) ∧ (1 : Int) ≤ (549755813888 : Int)) ∧ Holds ((0 : Int) ≤ (0 : Int)) ∧ Holds ((0 : Int) ≤ (0 : Int) ∧ (0 : Int) < (↑(Int.toNat (1 : Int)) : Int)) ∧ Holds ((1 : Nat) ≤ List.length [AV.i IntKind.u8 (0 : Int)]) ∧ Holds ((1 : Nat) ≤ List.length [AV.i IntKind.u8 (IntKind.wrap IntKind.u8 (Int.fdiv x ((2 : Int) ^ min (Int.toNat (IntKind.wrap IntKind.i64 ((8 : Int) * IntKind.wrap IntKind.i64 (IntKind.wrap IntKind.i64 ((1 : Int) - (1 : Int)) - (0 : Int))))) (IntKind.bits IntKind.i64))))]) ∧ ∃ (l : List Int), Holds (numsOf [AV.i IntKind.u8 (IntKind.wrap IntKind.u8 (Int.fdiv x ((2 : Int) ^ min (Int.toNat (IntKind.wrap IntKind.i64 ((8 : Int) * IntKind.wrap IntKind.i64 (IntKind.wrap IntKind.i64 ((1 : Int) - (1 : Int)) - (0 : Int))))) (IntKind.bits IntKind.i64))))] = some l) ∧ R (AV.tu [AV.s (textOf l), AV.ni]) [Blk.cells [AV.i IntKind.u8 (IntKind.wrap IntKind.u8 (Int.fdiv x ((2 : Int) ^ min (Int.toNat (IntKind.wrap IntKind.i64 ((8 : Int) * IntKind.wrap IntKind.i64 (IntKind.wrap IntKind.i64 ((1 : Int) - (1 : Int)) - (0 : Int))))) (IntKind.bits IntKind.i64))))] true]))) := by kernel_rfl
theorem vc15b (x : Int) (R : AV → Hp → Prop) : (wpFn P tnil noW noL 0 Go.Proofs.Tryd.f15 [.i .i64 x, .i .i64 2] [] R) = (br (decide (x < (0 : Int))) (R (AV.tu [AV.s (⟨#[]⟩ : ByteArray), AV.ic (23 : Nat) (AV.p (0 : Nat) (0 : Nat))]) [Blk.cells [AV.i IntKind.i64 (13 : Int), AV.i IntKind.i64 (0 : Int)] true]) (Holds ((0 : Int) ≤ (16 : Int)) ∧ br (decide (x ≥ IntKind.wrap IntKind.i64 ((1 : Int) * (2 : Int) ^ min (Int.toNat (IntKind.wrap IntKind.i64 ((8 : Int) * (2 : Int)))) (IntKind.bits IntKind.i64)))) (R (AV.tu [AV.s (⟨#[]⟩ : ByteArray), AV.ic (23 : Nat) (AV.p (0 : Nat) (0 : Nat))]) [Blk.cells [AV.i IntKind.i64 (13 : Int), AV.i IntKind.i64 (0 : Int)] true]) (Holds ((0 : Int) ≤ (2 : Int) ∧ (2 : Int) ≤ (2 : Int) ∧ (2 : Int) ≤ (549755813888 : Int)) ∧ Holds ((0 : Int) ≤ (8 : Int)) ∧ Holds ((0 : Int) ≤ (0 : Int) ∧ (0 : Int) < (↑(Int.toNat (2 : Int)) : Int)) ∧ Holds ((1 : Nat) ≤ List.length [AV.i IntKind.u8 (0 : Int), AV.i IntKind.u8 (0 : Int)]) ∧ Holds ((0 : Int) ≤ (0 : Int)) ∧ Holds ((0 : Int) ≤ IntKind.wrap IntKind.i64 ((0 : Int) + (1 : Int)) ∧ IntKind.wrap IntKind.i64 ((0 : Int) + (1 : Int)) < (↑(Int.toNat (2 : Int)) : Int)) ∧ Holds ((2 : Nat) ≤ List.length [AV.i IntKind.u8 (IntKind.wrap IntKind.u8 (Int.fdiv x ((2 : Int) ^ min (Int.toNat (IntKind.wrap IntKind.i64 ((8 : Int) * IntKind.wrap IntKind.i64 (IntKind.wrap IntKind.i64 ((2 : Int) - (1 : Int)) - (0 : Int))))) (IntKind.bits IntKind.i64)))), AV.i IntKind.u8 (0 : Int)]) ∧ Holds ((2 : Nat) ≤ List.length [AV.i IntKind.u8 (IntKind.wrap IntKind.u8 (Int.fdiv x ((2 : Int) ^ min (Int.toNat (IntKind.wrap IntKind.i64 ((8 : Int) * IntKind.wrap IntKind.i64 (IntKind.wrap IntKind.i64 ((2 : Int) - (1 : Int)) - (0 : Int))))) (IntKind.bits IntKind.i64)))), AV.i IntKind.u8 (IntKind.wrap IntKind.u8 (Int.fdiv x ((2 : Int) ^ min (Int.toNat (IntKind.wrap IntKind.i64 ((8 : Int) * IntKind.wrap IntKind.i64 (IntKind.wrap IntKind.i64 ((2 : Int) - (1 : Int)) - IntKind.wrap IntKind.i64 ((0 : Int) + (1 : Int)))))) (IntKind.bits IntKind.i64))))]) ∧ ∃ (l : List Int), Holds (numsOf [AV.i IntKind.u8 (IntKind.wrap IntKind.u8 (Int.fdiv x ((2 : Int) ^ min (Int.toNat (IntKind.wrap IntKind.i64 ((8 : Int) * IntKind.wrap IntKind.i64 (IntKind.wrap IntKind.i64 ((2 : Int) - (1 : Int)) - (0 : Int))))) (IntKind.bits IntKind.i64)))), AV.i IntKind.u8 (IntKind.wrap IntKind.u8 (Int.fdiv x ((2 : Int) ^ min (Int.toNat (IntKind.wrap IntKind.i64 ((8 : Int) * IntKind.wrap IntKind.i64 (IntKind.wrap IntKind.i64 ((2 : Int) - (1 : Int)) - IntKind.wrap IntKind.i64 ((0 : Int) + (1 : Int)))))) (IntKind.bits IntKind.i64))))] = some l) ∧ R (AV.tu [AV.s (textOf l), AV.ni]) [Blk.cells [AV.i IntKind.u8 (IntKind.wrap IntKind.u8 (Int.fdiv x ((2 : Int) ^ min (Int.toNat (IntKind.wrap IntKind.i64 ((8 : Int) * IntKind.wrap IntKind.i64 (IntKind.wrap IntKind.i64 ((2 : Int) - (1 : Int)) - (0 : Int))))) (IntKind.bits IntKind.i64)))), AV.i IntKind.u8 (IntKind.wrap IntKind.u8 (Int.fdiv x ((2 : Int) ^ min (Int.toNat (IntKind.wrap IntKind.i64 ((8 : Int) * IntKind.wrap IntKind.i64 (IntKind.wrap IntKind.i64 ((2 : Int) - (1 : Int)) - IntKind.wrap IntKind.i64 ((0 : Int) + (1 : Int)))))) (IntKind.bits IntKind.i64))))] true]))) := by kernel_rfl
theorem vc15d (x : Int) (R : AV → Hp → Prop) : (wpFn P tnil noW noL 0 Go.Proofs.Tryd.f15 [.i .i64 x, .i .i64 4] [] R) = (br (decide (x < (0 : Int))) (R (AV.tu [AV.s (⟨#[]⟩ : ByteArray), AV.ic (23 : Nat) (AV.p (0 : Nat) (0 : Nat))]) [Blk.cells [AV.i IntKind.i64 (13 : Int), AV.i IntKind.i64 (0 : Int)] true]) (Holds ((0 : Int) ≤ (32 : Int)) ∧ br (decide (x ≥ IntKind.wrap IntKind.i64 ((1 : Int) * (2 : Int) ^ min (Int.toNat (IntKind.wrap IntKind.i64 ((8 : Int) * (4 : Int)))) (IntKind.bits IntKind.i64)))) (R (AV.tu [AV.s (⟨#[]⟩ : ByteArray), AV.ic (23 : Nat) (AV.p (0 : Nat) (0 : Nat))]) [Blk.cells [AV.i IntKind.i64 (13 : Int), AV.i IntKind.i64 (0 : Int)] true]) (Holds ((0 : Int) ≤ (4 : Int) ∧ (4 : Int) ≤ (4 : Int) ∧ (4 : Int) ≤ (549755813888 : Int)) ∧ Holds ((0 : Int) ≤ (24 : Int)) ∧ Holds ((0 : Int) ≤ (0 : Int) ∧ (0 : Int) < (↑(Int.toNat (4 : Int)) : Int)) ∧ Holds ((1 : Nat) ≤ List.length [AV.i IntKind.u8 (0 : Int), AV.i IntKind.u8 (0 : Int), AV.i IntKind.u8 (0 : Int), AV.i IntKind.u8 (0 : Int)]) ∧ Holds ((0 : Int) ≤ (16 : Int)) ∧ Holds ((0 : Int) ≤ IntKind.wrap IntKind.i64 ((0 : Int) + (1 : Int)) ∧ IntKind.wrap IntKind.i64 ((0 : Int) + (1 : Int)) < (↑(Int.toNat (4 : Int)) : Int)) ∧ Holds ((2 : Nat) ≤ List.length [AV.i IntKind.u8 (IntKind.wrap IntKind.u8 (Int.fdiv x ((2 : Int) ^ min (Int.toNat (IntKind.wrap IntKind.i64 ((8 : Int) * IntKind.wrap IntKind.i64 (IntKind.wrap IntKind.i64 ((4 : Int) - (1 : Int)) - (0 : Int))))) (IntKind.bits IntKind.i64)))), AV.i IntKind.u8 (0 : Int), AV.i IntKind.u8 (0 : Int), AV.i IntKind.u8 (0 : Int)]) ∧ Holds ((0 : Int) ≤ (8 : Int)) ∧ Holds ((0 : Int) ≤ IntKind.wrap IntKind.i64 (IntKind.wrap IntKind.i64 ((0 : Int) + (1 : Int)) + (1 : Int)) ∧ IntKind.wrap IntKind.i64 (IntKind.wrap IntKind.i64 ((0 : Int) + (1 : Int)) + (1 : Int)) < (↑(Int.toNat (4 : Int)) : Int)) ∧ Holds ((3 : Nat) ≤ List.length [AV.i IntKind.u8 (IntKind.wrap IntKind.u8 (Int.fdiv x ((2 : Int) ^ min (Int.toNat (IntKind.wrap IntKind.i64 ((8 : Int) * IntKind.wrap IntKind.i64 (IntKind.wrap IntKind.i64 ((4 : Int) - (1 : Int)) - (0 : Int))))) (IntKind.bits IntKind.i64)))), AV.i IntKind.u8 (IntKind.wrap IntKind.u8 (Int.fdiv x ((2 : Int) ^ min (Int.toNat (IntKind.wrap IntKind.i64 ((8 : Int) * IntKind.wrap IntKind.i64 (IntKind.wrap IntKind.i64 ((4 : Int) - (1 : Int)) - IntKind.wrap IntKind.i64 ((0 : Int) + (1 : Int)))))) (IntKind.bits IntKind.i64)))), AV.i IntKind.u8 (0 : Int), AV.i IntKind.u8 (0 : Int)]) ∧ Holds ((0 : Int) ≤ (0 : Int)) ∧ Holds ((0 : Int) ≤ IntKind.wrap IntKind.i64 (IntKind.wrap IntKind.i64 (IntKind.wrap IntKind.i64 ((0 : Int) + (1 : Int)) + (1 : Int)) + (1 : Int)) ∧ IntKind.wrap IntKind.i64 (IntKind.wrap IntKind.i64 (IntKind.wrap IntKind.i64 ((0 : Int) + (1 : Int)) + (1 : Int)) + (1 : Int)) < (↑(Int.toNat (4 : Int)) : Int)) ∧ Holds ((4 : Nat) ≤ List.length [AV.i IntKind.u8 (IntKind.wrap IntKind.u8 (Int.fdiv x ((2 : Int) ^ min (Int.toNat (IntKind.wrap IntKind.i64 ((8 : Int) * IntKind.wrap IntKind.i64 (IntKind.wrap IntKind.i64 ((4 : Int) - (1 : Int)) - (0 : Int))))) (IntKind.bits IntKind.i64)))), AV.i IntKind.u8 (IntKind.wrap IntKind.u8 (Int.fdiv x ((2 : Int) ^ min (Int.toNat (IntKind.wrap IntKind.i64 ((8 : Int) * IntKind.wrap IntKind.i64 (IntKind.wrap IntKind.i64 ((4 : Int) - (1 : Int)) - IntKind.wrap IntKind.i64 ((0 : Int) + (1 : Int)))))) (IntKind.bits IntKind.i64)))), AV.i IntKind.u8 (IntKind.wrap IntKind.u8 (Int.fdiv x ((2 : Int) ^ min (Int.toNat (IntKind.wrap IntKind.i64 ((8 : Int) * IntKind.wrap IntKind.i64 (IntKind.wrap IntKind.i64 ((4 : Int) - (1 : Int)) - IntKind.wrap IntKind.i64 (IntKind.wrap IntKind.i64 ((0 : Int) + (1 : Int)) + (1 : Int)))))) (IntKind.bits IntKind.i64)))), AV.i IntKind.u8 (0 : Int)]) ∧ Holds ((4 : Nat) ≤ List.length [AV.i IntKind.u8 (IntKind.wrap IntKind.u8 (Int.fdiv x ((2 : Int) ^ min (Int.toNat (IntKind.wrap IntKind.i64 ((8 : Int) * IntKind.wrap IntKind.i64 (IntKind.wrap IntKind.i64 ((4 : Int) - (1 : Int)) - (0 : Int))))) (IntKind.bits IntKind.i64)))), AV.i IntKind.u8 (IntKind.wrap IntKind.u8 (Int.fdiv x ((2 : Int) ^ min (Int.toNat (IntKind.wrap IntKind.i64 ((8 : Int) * IntKind.wrap IntKind.i64 (IntKind.wrap IntKind.i64 ((4 : Int) - (1 : Int)) - IntKind.wrap IntKind.i64 ((0 : Int) + (1 : Int)))))) (IntKind.bits IntKind.i64)))), AV.i IntKind.u8 (IntKind.wrap IntKind.u8 (Int.fdiv x ((2 : Int) ^ min (Int.toNat (IntKind.wrap IntKind.i64 ((8 : Int) * IntKind.wrap IntKind.i64 (IntKind.wrap IntKind.i64 ((4 : Int) - (1 : Int)) - IntKind.wrap IntKind.i64 (IntKind.wrap IntKind.i64 ((0 : Int) + (1 : Int)) + (1 : Int)))))) (IntKind.bits IntKind.i64)))), AV.i IntKind.u8 (IntKind.wrap IntKind.u8 (Int.fdiv x ((2 : Int) ^ min (Int.toNat (IntKind.wrap IntKind.i64 ((8 : Int) * IntKind.wrap IntKind.i64 (IntKind.wrap IntKind.i64 ((4 : Int) - (1 : Int)) - IntKind.wrap IntKind.i64 (IntKind.wrap IntKind.i64 (IntKind.wrap IntKind.i64 ((0 : Int) + (1 : Int)) + (1 : Int)) + (1 : Int)))))) (IntKind.bits IntKind.i64))))]) ∧ ∃ (l : List Int), Holds (numsOf [AV.i IntKind.u8 (IntKind.wrap IntKind.u8 (Int.fdiv x ((2 : Int) ^ min (Int.toNat (IntKind.wrap IntKind.i64 ((8 : Int) * IntKind.wrap IntKind.i64 (IntKind.wrap IntKind.i64 ((4 : Int) - (1 : Int)) - (0 : Int))))) (IntKind.bits IntKind.i64)))), AV.i IntKind.u8 (IntKind.wrap IntKind.u8 (Int.fdiv x ((2 : Int) ^ min (Int.toNat (IntKind.wrap IntKind.i64 ((8 : Int) * IntKind.wrap IntKind.i64 (IntKind.wrap IntKind.i64 ((4 : Int) - (1 : Int)) - IntKind.wrap IntKind.i64 ((0 : Int) + (1 : Int)))))) (IntKind.bits IntKind.i64)))), AV.i IntKind.u8 (IntKind.wrap IntKind.u8 (Int.fdiv x ((2 : Int) ^ min (Int.toNat (IntKind.wrap IntKind.i64 ((8 : Int) * IntKind.wrap IntKind.i64 (IntKind.wrap IntKind.i64 ((4 : Int) - (1 : Int)) - IntKind.wrap IntKind.i64 (IntKind.wrap IntKind.i64 ((0 : Int) + (1 : Int)) + (1 : Int)))))) (IntKind.bits IntKind.i64)))), AV.i IntKind.u8 (IntKind.wrap IntKind.u8 (Int.fdiv x ((2 : Int) ^ min (Int.toNat (IntKind.wrap IntKind.i64 ((8 : Int) * IntKind.wrap IntKind.i64 (IntKind.wrap IntKind.i64 ((4 : Int) - (1 : Int)) - IntKind.wrap IntKind.i64 (IntKind.wrap IntKind.i64 (IntKind.wrap IntKind.i64 ((0 : Int) + (1 : Int)) + (1 : Int)) + (1 : Int)))))) (IntKind.bits IntKind.i64))))] = some l) ∧ R (AV.tu [AV.s (textOf l), AV.ni]) [Blk.cells [AV.i IntKind.u8 (IntKind.wrap IntKind.u8 (Int.fdiv x ((2 : Int) ^ min (Int.toNat (IntKind.wrap IntKind.i64 ((8 : Int) * IntKind.wrap IntKind.i64 (IntKind.wrap IntKind.i64 ((4 : Int) - (1 : Int)) - (0 : Int))))) (IntKind.bits IntKind.i64)))), AV.i IntKind.u8 (IntKind.wrap IntKind.u8 (Int.fdiv x ((2 : Int) ^ min (Int.toNat (IntKind.wrap IntKind.i64 ((8 : Int) * IntKind.wrap IntKind.i64 (IntKind.wrap IntKind.i64 ((4 : Int) - (1 : Int)) - IntKind.wrap IntKind.i64 ((0 : Int) + (1 : Int)))))) (IntKind.bits IntKind.i64)))), AV.i IntKind.u8 (IntKind.wrap IntKind.u8 (Int.fdiv x ((2 : Int) ^ min (Int.toNat (IntKind.wrap IntKind.i64 ((8 : Int) * IntKind.wrap IntKind.i64 (IntKind.wrap IntKind.i64 ((4 : Int) - (1 : Int)) - IntKind.wrap IntKind.i64 (IntKind.wrap IntKind.i64 ((0 : Int) + (1 : Int)) + (1 : Int)))))) (IntKind.bits IntKind.i64)))), AV.i IntKind.u8 (IntKind.wrap IntKind.u8 (Int.fdiv x ((2 : Int) ^ min (Int.toNat (IntKind.wrap IntKind.i64 ((8 : Int) * IntKind.wrap IntKind.i64 (IntKind.wrap IntKind.i64 ((4 : Int) - (1 : Int)) - IntKind.wrap IntKind.i64 (IntKind.wrap IntKind.i64 (IntKind.wrap IntKind.i64 ((0 : Int) + (1 : Int)) + (1 : Int)) + (1 : Int)))))) (IntKind.bits IntKind.i64))))] true]))) := by kernel_rfl
theorem vc16 (x n : Int) (R : AV → Hp → Prop) : (wpFn P tnil noW (nowhere 14) 0 Go.Proofs.Tryd.f16 [.i .i64 x, .i .i64 n] [] R) = (br (n == (1 : Int)) (br (decide (x < (0 : Int))) (R (AV.tu [AV.s (⟨#[]⟩ : ByteArray), AV.i IntKind.i64 (13 : Int)]) []) (br (decide (x > (255 : Int))) (R (AV.tu [AV.s (⟨#[]⟩ : ByteArray), AV.i IntKind.i64 (13 : Int)]) []) False)) (br (n == (2 : Int)) (br (decide (x < (0 : Int))) (R (AV.tu [AV.s (⟨#[]⟩ : ByteArray), AV.i IntKind.i64 (13 : Int)]) []) (br (decide (x > (65535 : Int))) (R (AV.tu [AV.s (⟨#[]⟩ : ByteArray), AV.i IntKind.i64 (13 : Int)]) []) False)) (br (n == (4 : Int)) (br (decide (x < (0 : Int))) (R (AV.tu [AV.s (⟨#[]⟩ : ByteArray), AV.i IntKind.i64 (13 : Int)]) []) (br (decide (x > (4294967295 : Int))) (R (AV.tu [AV.s (⟨#[]⟩ : ByteArray), AV.i IntKind.i64 (13 : Int)]) []) False)) (R (AV.tu [AV.s (⟨#[]⟩ : ByteArray), AV.i IntKind.i64 (1 : Int)]) [])))) := by kernel_rfl
theorem vc16a (x : Int) (R : AV → Hp → Prop) : (wpFn P tnil noW noL 0 Go.Proofs.Tryd.f16 [.i .i64 x, .i .i64 1] [] R) = (br (decide (x < (0 : Int))) (R (AV.tu [AV.s (⟨#[]⟩ : ByteArray), AV.i IntKind.i64 (13 : Int)]) []) (br (decide (x > (255 : Int))) (R (AV.tu [AV.s (⟨#[]⟩ : ByteArray), AV.i IntKind.i64 (13 : Int)]) []) (Holds ((1 : Nat) ≤ List.length [AV.i IntKind.u8 (IntKind.wrap IntKind.u8 (Int.tmod x (256 : Int)))]) ∧ ∃ (l : List Int), Holds (numsOf [AV.i IntKind.u8 (IntKind.wrap IntKind.u8 (Int.tmod x (256 : Int)))] = some l) ∧ Holds (ByteArray.size (textOf l) + (0 : Nat) ≤ (9223372036854775807 : Nat)) ∧ R (AV.tu [AV.s (textOf l ++ (⟨#[]⟩ : ByteArray)), AV.i IntKind.i64 (0 : Int)]) [Blk.cells [AV.i IntKind.u8 (IntKind.wrap IntKind.u8 (Int.tmod x (256 : Int)))] true]))) := by kernel_rfl
theorem vc16b (x : Int) (R : AV → Hp → Prop) : (wpFn P tnil noW noL 0 Go.Proofs.Tryd.f16 [.i .i64 x, .i .i64 2] [] R) = (br (decide (x < (0 : Int))) (R (AV.tu [AV.s (⟨#[]⟩ : ByteArray), AV.i IntKind.i64 (13 : Int)]) []) (br (decide (x > (65535 : Int))) (R (AV.tu [AV.s (⟨#[]⟩ : ByteArray), AV.i IntKind.i64 (13 : Int)]) []) (Holds ((1 : Nat) ≤ List.length [AV.i IntKind.u8 (IntKind.wrap IntKind.u8 (Int.tmod x (256 : Int)))]) ∧ ∃ (l : List Int), Holds (numsOf [AV.i IntKind.u8 (IntKind.wrap IntKind.u8 (Int.tmod x (256 : Int)))] = some l) ∧ Holds (ByteArray.size (textOf l) + (0 : Nat) ≤ (9223372036854775807 : Nat)) ∧ Holds ((1 : Nat) ≤ List.length [AV.i IntKind.u8 (IntKind.wrap IntKind.u8 (Int.tmod (IntKind.wrap IntKind.i64 (Int.tdiv x (256 : Int))) (256 : Int)))]) ∧ ∃ (l_1 : List Int), Holds (numsOf [AV.i IntKind.u8 (IntKind.wrap IntKind.u8 (Int.tmod (IntKind.wrap IntKind.i64 (Int.tdiv x (256 : Int))) (256 : Int)))] = some l_1) ∧ Holds (ByteArray.size (textOf l_1) + ByteArray.size (textOf l ++ (⟨#[]⟩ : ByteArray)) ≤ (9223372036854775807 : Nat)) ∧ R (AV.tu [AV.s (textOf l_1 ++ (textOf l ++ (⟨#[]⟩ : ByteArray))), AV.i IntKind.i64 (0 : Int)]) [Blk.cells [AV.i IntKind.u8 (IntKind.wrap IntKind.u8 (Int.tmod x (256 : Int)))] true, Blk.cells [AV.i IntKind.u8 (IntKind.wrap IntKind.u8 (Int.tmod (IntKind.wrap IntKind.i64 (Int.tdiv x (256 : Int))) (256 : Int)))] true]))) := by kernel_rfl
theorem vc16d (x : Int) (R : AV → Hp → Prop) : (wpFn P tnil noW noL 0 Go.Proofs.Tryd.f16 [.i .i64 x, .i .i64 4] [] R) = (br (decide (x < (0 : Int))) (R (AV.tu [AV.s (⟨#[]⟩ : ByteArray), AV.i IntKind.i64 (13 : Int)]) []) (br (decide (x > (4294967295 : Int))) (R (AV.tu [AV.s (⟨#[]⟩ : ByteArray), AV.i IntKind.i64 (13 : Int)]) []) (Holds ((1 : Nat) ≤ List.length [AV.i IntKind.u8 (IntKind.wrap IntKind.u8 (Int.tmod x (256 : Int)))]) ∧ ∃ (l : List Int), Holds (numsOf [AV.i IntKind.u8 (IntKind.wrap IntKind.u8 (Int.tmod x (256 : Int)))] = some l) ∧ Holds (ByteArray.size (textOf l) + (0 : Nat) ≤ (9223372036854775807 : Nat)) ∧ Holds ((1 : Nat) ≤ List.length [AV.i IntKind.u8 (IntKind.wrap IntKind.u8 (Int.tmod (IntKind.wrap IntKind.i64 (Int.tdiv x (256 : Int))) (256 : Int)))]) ∧ ∃ (l_1 : List Int), Holds (numsOf [AV.i IntKind.u8 (IntKind.wrap IntKind.u8 (Int.tmod (IntKind.wrap IntKind.i64 (Int.tdiv x (256 : Int))) (256 : Int)))] = some l_1) ∧ Holds (ByteArray.size (textOf l_1) + ByteArray.size (textOf l ++ (⟨#[]⟩ : ByteArray)) ≤ (9223372036854775807 : Nat)) ∧ Holds ((1 : Nat) ≤ List.length [AV.i IntKind.u8 (IntKind.wrap IntKind.u8 (Int.tmod (IntKind.wrap IntKind.i64 (Int.tdiv (IntKind.wrap IntKind.i64 (Int.tdiv x (256 : Int))) (256 : Int))) (256 : Int)))]) ∧ ∃ (l_2 : List Int), Holds (numsOf [AV.i IntKind.u8 (IntKind.wrap IntKind.u8 (Int.tmod (IntKind.wrap IntKind.i64 (Int.tdiv (IntKind.wrap IntKind.i64 (Int.tdiv x (256 : Int))) (256 : Int))) (256 : Int)))] = some l_2) ∧ Holds (ByteArray.size (textOf l_2) + ByteArray.size (textOf l_1 ++ (textOf l ++ (⟨#[]⟩ : ByteArray))) ≤ (9223372036854775807 : Nat)) ∧ Holds ((1 : Nat) ≤ List.length [AV.i IntKind.u8 (IntKind.wrap IntKind.u8 (Int.tmod (IntKind.wrap IntKind.i64 (Int.tdiv (IntKind.wrap IntKind.i64 (Int.tdiv (IntKind.wrap IntKind.i64 (Int.tdiv x (256 : Int))) (256 : Int))) (256 : Int))) (256 : Int)))]) ∧ ∃ (l_3 : List Int), Holds (numsOf [AV.i IntKind.u8 (IntKind.wrap IntKind.u8 (Int.tmod (IntKind.wrap IntKind.i64 (Int.tdiv (IntKind.wrap IntKind.i64 (Int.tdiv (IntKind.wrap IntKind.i64 (Int.tdiv x (256 : Int))) (256 : Int))) (256 : Int))) (256 : Int)))] = some l_3) ∧ Holds (ByteArray.size (textOf l_3) + ByteArray.size (textOf l_2 ++ (textOf l_1 ++ (textOf l ++ (⟨#[]⟩ : ByteArray)))) ≤ (9223372036854775807 : Nat)) ∧ R (AV.tu [AV.s (textOf l_3 ++ (textOf l_2 ++ (textOf l_1 ++ (textOf l ++ (⟨#[]⟩ : ByteArray))))), AV.i IntKind.i64 (0 : Int)]) [Blk.cells [AV.i IntKind.u8 (IntKind.wrap IntKind.u8 (Int.tmod x (256 : Int)))] true, Blk.cells [AV.i IntKind.u8 (IntKind.wrap IntKind.u8 (Int.tmod (IntKind.wrap IntKind.i64 (Int.tdiv x (256 : Int))) (256 : Int)))] true, Blk.cells [AV.i IntKind.u8 (IntKind.wrap IntKind.u8 (Int.tmod (IntKind.wrap IntKind.i64 (Int.tdiv (IntKind.wrap IntKind.i64 (Int.tdiv x (256 : Int))) (256 : Int))) (256 : Int)))] true, Blk.cells [AV.i IntKind.u8 (IntKind.wrap IntKind.u8 (Int.tmod (IntKind.wrap IntKind.i64 (Int.tdiv (IntKind.wrap IntKind.i64 (Int.tdiv (IntKind.wrap IntKind.i64 (Int.tdiv x (256 : Int))) (256 : Int))) (256 : Int))) (256 : Int)))] true]))) := by kernel_rfl
theorem vc4 (G : Int → Int → Bool) (B : Int → Int → ByteArray) (Cd : Int → Int → Int) (x n : Int) (R : AV → Hp → Prop) : (wpFn P (TW G B Cd) noW noL 0 Go.Proofs.Tryd.f4 [.i .i64 x, .i .i64 n] [] R) = (br (G x n) (br (ByteArray.toList (B x n) == ByteArray.toList (B x n)) (R (AV.bo (Cd x n == (0 : Int))) []) (R (AV.bo false) [])) (br (ByteArray.toList (⟨#[]⟩ : ByteArray) == ByteArray.toList (B x n)) (R (AV.bo (!Cd x n == (0 : Int) && (Cd x n == Cd x n && (0 : Int) == (0 : Int)))) [Blk.cells [AV.i IntKind.i64 (Cd x n), AV.i IntKind.i64 (0 : Int)] true]) (R (AV.bo false) [Blk.cells [AV.i IntKind.i64 (Cd x n), AV.i IntKind.i64 (0 : Int)] true]))) := by kernel_rfl
def okn (n : Int) : Bool := n == 1 || (n == 2 || n == 4)
def nG (x n : Int) : Bool := okn n && decide (0 ≤ x ∧ x < 256 ^ n.toNat)
def nB (x n : Int) : ByteArray := if nG x n = true then textOf (putL x n.toNat) else ⟨#[]⟩
def nC (x n : Int) : Int := if nG x n = true then 0 else if okn n = true then 13 else 1
def mkI (q : Int × Int) : List AV := [.i .i64 q.1, .i .i64 q.2]
theorem mkI_inj (x y : Int × Int) (h : mkI x = mkI y) : x = y := by
  obtain ⟨a, b⟩ := x; obtain ⟨c, d⟩ := y
  simp only [mkI, List.cons.injEq, AV.i.injEq, true_and, and_true] at h
  rw [h.1, h.2]
def rrB (q : Int × Int) : AV := .tu [.s (nB q.1 q.2), .ni]
def eeB (q : Int × Int) (m : Nat) : AV := .tu [.s ⟨#[]⟩, .ic 23 (.p m 0)]
def rowB (q : Int × Int) : List AV := [.i .i64 (nC q.1 q.2), .i .i64 0]
theorem nG1 {x : Int} : nG x 1 = true ↔ 0 ≤ x ∧ x ≤ 255 := by
  have e : (256 : Int) ^ (Int.toNat 1) = 256 := by decide
  simp only [nG, okn, e, Bool.and_eq_true, decide_eq_true_eq]; simp; omega
theorem nG2 {x : Int} : nG x 2 = true ↔ 0 ≤ x ∧ x ≤ 65535 := by
  have e : (256 : Int) ^ (Int.toNat 2) = 65536 := by decide
  simp only [nG, okn, e, Bool.and_eq_true, decide_eq_true_eq]; simp; omega
theorem nG4 {x : Int} : nG x 4 = true ↔ 0 ≤ x ∧ x ≤ 4294967295 := by
  have e : (256 : Int) ^ (Int.toNat 4) = 4294967296 := by decide
  simp only [nG, okn, e, Bool.and_eq_true, decide_eq_true_eq]; simp; omega
theorem fn15 : fnOk1 P noW 15 Go.Proofs.Tryd.f15 := ⟨Go.Proofs.Tryd.func15, by kernel_rfl, by kernel_rfl, by kernel_rfl⟩
theorem fn16 : fnOk1 P noW 16 Go.Proofs.Tryd.f16 := ⟨Go.Proofs.Tryd.func16, by kernel_rfl, by kernel_rfl, by kernel_rfl⟩
theorem fn4 : fnOk1 P noW 4 Go.Proofs.Tryd.f4 := ⟨Go.Proofs.Tryd.func4, by kernel_rfl, by kernel_rfl, by kernel_rfl⟩
theorem eM1 : IntKind.wrap .i64 (1 * 2 ^ min (Int.toNat (IntKind.wrap .i64 (8 * 1))) (IntKind.bits IntKind.i64)) = 256 := by decide
theorem eM2 : IntKind.wrap .i64 (1 * 2 ^ min (Int.toNat (IntKind.wrap .i64 (8 * 2))) (IntKind.bits IntKind.i64)) = 65536 := by decide
theorem eM4 : IntKind.wrap .i64 (1 * 2 ^ min (Int.toNat (IntKind.wrap .i64 (8 * 4))) (IntKind.bits IntKind.i64)) = 4294967296 := by decide
set_option maxRecDepth 100000 in
theorem big_s : SoundF P 15 (Cof (Sfault mkI (fun _ => True) (fun q => nG q.1 q.2 = true) rrB eeB rowB)) := by
  refine SoundF.faultL (follows_nil _) (noEnv_sound _) mo fn15 (fun _ => rfl) (fun _ => rfl) (fun _ _ => rfl) (fun _ => rfl) ?_
  rintro ⟨x, n⟩ _
  have H : ∀ R : AV → Hp → Prop, ((fun q : Int × Int => nG q.1 q.2 = true) (x, n) → ∀ h1, R (rrB (x, n)) h1) → (¬ (fun q : Int × Int => nG q.1 q.2 = true) (x, n) → ∀ v h1, Wk 0 ⟨[v], h1⟩ ⟨[eeB (x, n) 0], [.cells (rowB (x, n)) true]⟩ → R v h1) →
      (∀ c, nC x n = c → ¬ nG x n = true → R (.tu [.s ⟨#[]⟩, .ic 23 (.p 0 0)]) [.cells [.i .i64 c, .i .i64 0] true]) ∧ (nG x n = true → ∀ h1 l, l = putL x n.toNat → R (.tu [.s (textOf l), .ni]) h1) := by
    intro R hg hb
    refine ⟨fun c hc hne => hb hne _ _ (by subst hc; exact Wk.refl _ _), fun h h1 l hl => ?_⟩
    have := hg h h1
    simp only [rrB, nB] at this
    rw [if_pos h] at this
    subst hl
    exact this
  by_cases n1 : n = 1
  · subst n1
    refine ⟨noL, fun R hg hb => ⟨?_⟩⟩
    obtain ⟨bad, good⟩ := H R hg hb
    show wpFn P tnil noW noL 0 Go.Proofs.Tryd.f15 [.i .i64 x, .i .i64 1] [] R
    rw [vc15a]
    simp only [eM1]
    simp only [↓br_ite, ↓reduceIte, holds_eq, List.getElem?_cons_zero, List.getElem?_cons_succ, Option.some.injEq, AV.i.injEq, AV.s.injEq, AV.bo.injEq, true_and, and_true, List.cons.injEq, List.length_cons, List.length_nil, and_assoc, exists_and_left, exists_eq_left', exists_eq_left, br_true, br_false, Nat.zero_add, Nat.add_zero, Nat.reduceAdd, Nat.reduceLeDiff, Nat.le_refl, numsOf_one, beq_self_eq_true, Int.reduceLE, Int.reduceLT, Int.reduceAdd, Int.reduceSub, Int.reduceMul, Int.reduceNeg, Int.reduceToNat, Int.reducePow, Int.reduceMod, Int.reduceDiv, Int.cast_ofNat_Int, Int.reduceBEq, i64w, decide_true, decide_false, Int.le_refl, Nat.min_def, reduceIte, Int.one_mul, bits64, Int.natCast_add, Bool.false_eq_true, wk_and]
    have bad := fun h : ¬ (0 ≤ x ∧ x ≤ 255) => bad 13 (by rw [nC, if_neg (fun k => h (nG1.1 k))]; rfl) (fun k => h (nG1.1 k))
    split
    · rename_i c; simp only [decide_eq_true_eq] at c; exact bad (by omega)
    split
    · rename_i c c2; simp only [decide_eq_true_eq] at c c2; exact bad (by omega)
    · rename_i c c2; simp only [decide_eq_true_eq] at c c2
      refine good (nG1.2 (by omega)) _ _ ?_
      simp [putL, wrap8, fd]
  by_cases n2 : n = 2
  · subst n2
    refine ⟨noL, fun R hg hb => ⟨?_⟩⟩
    obtain ⟨bad, good⟩ := H R hg hb
    show wpFn P tnil noW noL 0 Go.Proofs.Tryd.f15 [.i .i64 x, .i .i64 2] [] R
    rw [vc15b]
    simp only [eM2]
    simp only [↓br_ite, ↓reduceIte, holds_eq, List.getElem?_cons_zero, List.getElem?_cons_succ, Option.some.injEq, AV.i.injEq, AV.s.injEq, AV.bo.injEq, true_and, and_true, List.cons.injEq, List.length_cons, List.length_nil, and_assoc, exists_and_left, exists_eq_left', exists_eq_left, br_true, br_false, Nat.zero_add, Nat.add_zero, Nat.reduceAdd, Nat.reduceLeDiff, Nat.le_refl, numsOf_one, beq_self_eq_true, Int.reduceLE, Int.reduceLT, Int.reduceAdd, Int.reduceSub, Int.reduceMul, Int.reduceNeg, Int.reduceToNat, Int.reducePow, Int.reduceMod, Int.reduceDiv, Int.cast_ofNat_Int, Int.reduceBEq, i64w, decide_true, decide_false, Int.le_refl, Nat.min_def, reduceIte, Int.one_mul, bits64, Int.natCast_add, Bool.false_eq_true, wk_and]
    have bad := fun h : ¬ (0 ≤ x ∧ x ≤ 65535) => bad 13 (by rw [nC, if_neg (fun k => h (nG2.1 k))]; rfl) (fun k => h (nG2.1 k))
    split
    · rename_i c; simp only [decide_eq_true_eq] at c; exact bad (by omega)
    split
    · rename_i c c2; simp only [decide_eq_true_eq] at c c2; exact bad (by omega)
    · rename_i c c2; simp only [decide_eq_true_eq] at c c2
      refine ⟨_, numsOf_two _ _, good (nG2.2 (by omega)) _ _ ?_⟩
      show _ = putL x 2
      rw [put2]
      simp [wrap8, fd]
  by_cases n4 : n = 4
  · subst n4
    refine ⟨noL, fun R hg hb => ⟨?_⟩⟩
    obtain ⟨bad, good⟩ := H R hg hb
    show wpFn P tnil noW noL 0 Go.Proofs.Tryd.f15 [.i .i64 x, .i .i64 4] [] R
    rw [vc15d]
    simp only [eM4]
    simp only [↓br_ite, ↓reduceIte, holds_eq, List.getElem?_cons_zero, List.getElem?_cons_succ, Option.some.injEq, AV.i.injEq, AV.s.injEq, AV.bo.injEq, true_and, and_true, List.cons.injEq, List.length_cons, List.length_nil, and_assoc, exists_and_left, exists_eq_left', exists_eq_left, br_true, br_false, Nat.zero_add, Nat.add_zero, Nat.reduceAdd, Nat.reduceLeDiff, Nat.le_refl, numsOf_one, beq_self_eq_true, Int.reduceLE, Int.reduceLT, Int.reduceAdd, Int.reduceSub, Int.reduceMul, Int.reduceNeg, Int.reduceToNat, Int.reducePow, Int.reduceMod, Int.reduceDiv, Int.cast_ofNat_Int, Int.reduceBEq, i64w, decide_true, decide_false, Int.le_refl, Nat.min_def, reduceIte, Int.one_mul, bits64, Int.natCast_add, Bool.false_eq_true, wk_and]
    have bad := fun h : ¬ (0 ≤ x ∧ x ≤ 4294967295) => bad 13 (by rw [nC, if_neg (fun k => h (nG4.1 k))]; rfl) (fun k => h (nG4.1 k))
    split
    · rename_i c; simp only [decide_eq_true_eq] at c; exact bad (by omega)
    split
    · rename_i c c2; simp only [decide_eq_true_eq] at c c2; exact bad (by omega)
    · rename_i c c2; simp only [decide_eq_true_eq] at c c2
      refine ⟨_, numsOf_four _ _ _ _, good (nG4.2 (by omega)) _ _ ?_⟩
      show _ = putL x 4
      rw [put4]
      simp [wrap8, fd]
  · refine ⟨nowhere 7, fun R hg hb => ⟨?_⟩⟩
    obtain ⟨bad, good⟩ := H R hg hb
    show wpFn P tnil noW (nowhere 7) 0 Go.Proofs.Tryd.f15 [.i .i64 x, .i .i64 n] [] R
    have k : ¬ nG x n = true := by simp [nG, okn, n1, n2, n4]
    have a1 : (n != 1) = true := by simpa using n1
    have a2 : (n != 2) = true := by simpa using n2
    have a4 : (n != 4) = true := by simpa using n4
    rw [vc15, a1, a2, a4]
    exact bad 1 (by rw [nC, if_neg k, if_neg (by simp [okn, n1, n2, n4])]) k
theorem tx (l : List Int) : textOf l ++ (⟨#[]⟩ : ByteArray) = textOf l := by
  have := textOf_append l []
  rw [List.append_nil] at this
  exact this
def rrR (q : Int × Int) : AV := .tu [.s (nB q.1 q.2), .i .i64 (nC q.1 q.2)]
set_option maxRecDepth 100000 in
theorem rbig_s : SoundF P 16 (Cof (Splain mkI (fun _ => True) rrR)) := by
  refine SoundF.plain (follows_nil _) (noEnv_sound _) mo fn16 (fun _ => rfl) (fun _ => rfl) ?_
  rintro ⟨x, n⟩ _
  have bad : ∀ c, nC x n = c → ¬ nG x n = true → AV.tu [.s ⟨#[]⟩, .i .i64 c] = rrR (x, n) := by
    intro c hc hne
    simp only [rrR, nB]
    rw [if_neg hne, hc]
  have good : nG x n = true → ∀ s, s = textOf (putL x n.toNat) → AV.tu [.s s, .i .i64 0] = rrR (x, n) := by
    intro h s hs
    simp only [rrR, nB]
    rw [if_pos h, nC, if_pos h, hs]
  by_cases n1 : n = 1
  · subst n1
    refine ⟨noL, 0, ?_⟩
    show wpFn P tnil noW noL 0 Go.Proofs.Tryd.f16 [.i .i64 x, .i .i64 1] [] _
    rw [vc16a]
    simp only [↓br_ite, ↓reduceIte, holds_eq, List.getElem?_cons_zero, List.getElem?_cons_succ, Option.some.injEq, AV.i.injEq, AV.s.injEq, AV.bo.injEq, true_and, and_true, List.cons.injEq, List.length_cons, List.length_nil, and_assoc, exists_and_left, exists_eq_left', exists_eq_left, br_true, br_false, Nat.zero_add, Nat.add_zero, Nat.reduceAdd, Nat.reduceLeDiff, Nat.le_refl, numsOf_one, beq_self_eq_true, Int.reduceLE, Int.reduceLT, Int.reduceAdd, Int.reduceSub, Int.reduceMul, Int.reduceNeg, Int.reduceToNat, Int.reducePow, Int.reduceMod, Int.reduceDiv, Int.cast_ofNat_Int, Int.reduceBEq, i64w, decide_true, decide_false, Int.le_refl, Nat.min_def, reduceIte, Int.one_mul, bits64, Int.natCast_add, Bool.false_eq_true, wk_and]
    have bad := fun h : ¬ (0 ≤ x ∧ x ≤ 255) => bad 13 (by rw [nC, if_neg (fun k => h (nG1.1 k))]; rfl) (fun k => h (nG1.1 k))
    split
    · rename_i c; simp only [decide_eq_true_eq] at c; exact bad (by omega)
    split
    · rename_i c c2; simp only [decide_eq_true_eq] at c c2; exact bad (by omega)
    rename_i c c2; simp only [decide_eq_true_eq] at c c2
    have h0 : 0 ≤ x := by omega
    have hM : x ≤ 255 := by omega
    rw [Int.tmod_eq_emod_of_nonneg h0]
    simp only [tx, textOf_append, textOf_size, wrap8, List.length_cons, List.length_nil, List.length_append]
    refine ⟨by decide, good (nG1.2 ⟨h0, hM⟩) _ ?_⟩
    show _ = textOf (putL x 1)
    simp [putL]
  by_cases n2 : n = 2
  · subst n2
    refine ⟨noL, 0, ?_⟩
    show wpFn P tnil noW noL 0 Go.Proofs.Tryd.f16 [.i .i64 x, .i .i64 2] [] _
    rw [vc16b]
    simp only [↓br_ite, ↓reduceIte, holds_eq, List.getElem?_cons_zero, List.getElem?_cons_succ, Option.some.injEq, AV.i.injEq, AV.s.injEq, AV.bo.injEq, true_and, and_true, List.cons.injEq, List.length_cons, List.length_nil, and_assoc, exists_and_left, exists_eq_left', exists_eq_left, br_true, br_false, Nat.zero_add, Nat.add_zero, Nat.reduceAdd, Nat.reduceLeDiff, Nat.le_refl, numsOf_one, beq_self_eq_true, Int.reduceLE, Int.reduceLT, Int.reduceAdd, Int.reduceSub, Int.reduceMul, Int.reduceNeg, Int.reduceToNat, Int.reducePow, Int.reduceMod, Int.reduceDiv, Int.cast_ofNat_Int, Int.reduceBEq, i64w, decide_true, decide_false, Int.le_refl, Nat.min_def, reduceIte, Int.one_mul, bits64, Int.natCast_add, Bool.false_eq_true, wk_and]
    have bad := fun h : ¬ (0 ≤ x ∧ x ≤ 65535) => bad 13 (by rw [nC, if_neg (fun k => h (nG2.1 k))]; rfl) (fun k => h (nG2.1 k))
    split
    · rename_i c; simp only [decide_eq_true_eq] at c; exact bad (by omega)
    split
    · rename_i c c2; simp only [decide_eq_true_eq] at c c2; exact bad (by omega)
    rename_i c c2; simp only [decide_eq_true_eq] at c c2
    have h0 : 0 ≤ x := by omega
    have hM : x ≤ 65535 := by omega
    have d1 : IntKind.wrap .i64 (x.tdiv 256) = x / 256 := by rw [Int.tdiv_eq_ediv_of_nonneg h0, i64w (by omega) (by omega)]
    rw [d1, Int.tmod_eq_emod_of_nonneg h0, Int.tmod_eq_emod_of_nonneg (show 0 ≤ x / 256 by omega)]
    simp only [tx, textOf_append, textOf_size, wrap8, List.length_cons, List.length_nil, List.length_append]
    refine ⟨by decide, by decide, good (nG2.2 ⟨h0, hM⟩) _ ?_⟩
    show _ = textOf (putL x 2)
    simp [putL]
  by_cases n4 : n = 4
  · subst n4
    refine ⟨noL, 0, ?_⟩
    show wpFn P tnil noW noL 0 Go.Proofs.Tryd.f16 [.i .i64 x, .i .i64 4] [] _
    rw [vc16d]
    simp only [↓br_ite, ↓reduceIte, holds_eq, List.getElem?_cons_zero, List.getElem?_cons_succ, Option.some.injEq, AV.i.injEq, AV.s.injEq, AV.bo.injEq, true_and, and_true, List.cons.injEq, List.length_cons, List.length_nil, and_assoc, exists_and_left, exists_eq_left', exists_eq_left, br_true, br_false, Nat.zero_add, Nat.add_zero, Nat.reduceAdd, Nat.reduceLeDiff, Nat.le_refl, numsOf_one, beq_self_eq_true, Int.reduceLE, Int.reduceLT, Int.reduceAdd, Int.reduceSub, Int.reduceMul, Int.reduceNeg, Int.reduceToNat, Int.reducePow, Int.reduceMod, Int.reduceDiv, Int.cast_ofNat_Int, Int.reduceBEq, i64w, decide_true, decide_false, Int.le_refl, Nat.min_def, reduceIte, Int.one_mul, bits64, Int.natCast_add, Bool.false_eq_true, wk_and]
    have bad := fun h : ¬ (0 ≤ x ∧ x ≤ 4294967295) => bad 13 (by rw [nC, if_neg (fun k => h (nG4.1 k))]; rfl) (fun k => h (nG4.1 k))
    split
    · rename_i c; simp only [decide_eq_true_eq] at c; exact bad (by omega)
    split
    · rename_i c c2; simp only [decide_eq_true_eq] at c c2; exact bad (by omega)
    rename_i c c2; simp only [decide_eq_true_eq] at c c2
    have h0 : 0 ≤ x := by omega
    have hM : x ≤ 4294967295 := by omega
    have d1 : IntKind.wrap .i64 (x.tdiv 256) = x / 256 := by rw [Int.tdiv_eq_ediv_of_nonneg h0, i64w (by omega) (by omega)]
    have d2 : IntKind.wrap .i64 ((x / 256).tdiv 256) = x / 256 / 256 := by rw [Int.tdiv_eq_ediv_of_nonneg (by omega), i64w (by omega) (by omega)]
    have d3 : IntKind.wrap .i64 ((x / 256 / 256).tdiv 256) = x / 256 / 256 / 256 := by rw [Int.tdiv_eq_ediv_of_nonneg (by omega), i64w (by omega) (by omega)]
    rw [d1, d2, d3, Int.tmod_eq_emod_of_nonneg h0, Int.tmod_eq_emod_of_nonneg (show 0 ≤ x / 256 by omega), Int.tmod_eq_emod_of_nonneg (show 0 ≤ x / 256 / 256 by omega), Int.tmod_eq_emod_of_nonneg (show 0 ≤ x / 256 / 256 / 256 by omega)]
    simp only [tx, textOf_append, textOf_size, wrap8, List.length_cons, List.length_nil, List.length_append]
    refine ⟨by decide, by decide, by decide, by decide, good (nG4.2 ⟨h0, hM⟩) _ ?_⟩
    show _ = textOf (putL x 4)
    simp [putL]
  · refine ⟨nowhere 14, 0, ?_⟩
    show wpFn P tnil noW (nowhere 14) 0 Go.Proofs.Tryd.f16 [.i .i64 x, .i .i64 n] [] _
    have k : ¬ nG x n = true := by simp [nG, okn, n1, n2, n4]
    have a1 : (n == 1) = false := by simpa using n1
    have a2 : (n == 2) = false := by simpa using n2
    have a4 : (n == 4) = false := by simpa using n4
    rw [vc16, a1, a2, a4]
    exact bad 1 (by rw [nC, if_neg k, if_neg (by simp [okn, n1, n2, n4])]) k
theorem tbig_f : FollowsF (tbig nG nB nC) (Cof (Sfault mkI (fun _ => True) (fun q => nG q.1 q.2 = true) rrB eeB rowB)) := by
  refine follows_of (Sfault.det mkI_inj) fun args h K hk => ?_
  unfold tbig at hk
  split at hk
  · rename_i x n
    rcases br_elim hk with ⟨h1, h2⟩ | ⟨h1, h2⟩
    · exact ⟨_, _, ⟨(x, n), rfl, trivial, .inl ⟨h1, rfl, rfl⟩⟩, h2⟩
    · rw [lenK_eq] at h2
      exact ⟨_, _, ⟨(x, n), rfl, trivial, .inr ⟨by simpa using h1, rfl, rfl⟩⟩, h2⟩
  · exact hk.elim
theorem trbig_f : FollowsF (trbig nB nC) (Cof (Splain mkI (fun _ => True) rrR)) := by
  refine follows_of (Splain.det mkI_inj) fun args h K hk => ?_
  unfold trbig at hk
  split at hk
  · rename_i x n
    exact ⟨_, _, ⟨rfl, (x, n), rfl, trivial, rfl⟩, hk⟩
  · exact hk.elim
noncomputable abbrev ΓW : Env := with1 10 (Cconst (.bo true)) (with1 15 (Cof (Sfault mkI (fun _ => True) (fun q => nG q.1 q.2 = true) rrB eeB rowB)) (with1 16 (Cof (Splain mkI (fun _ => True) rrR)) (with1 17 Csame noEnv)))
theorem ΓW_s : Sound P ΓW := with1_sound (fnOkB_ok (by kernel_rfl)) awake_s (with1_sound fn15.ok big_s (with1_sound fn16.ok rbig_s (with1_sound fn17.ok same_s (noEnv_sound _))))
theorem ΓW_f : Follows (TW nG nB nC) ΓW := follows_cons (follows_const _) (follows_cons tbig_f (follows_cons trbig_f (follows_cons (tof_f _) (follows_nil _))))
theorem law4 (x n : Int) : wpFn P (TW nG nB nC) noW noL 0 Go.Proofs.Tryd.f4 [.i .i64 x, .i .i64 n] [] fun v _ => v = .bo true := by
  rw [vc4]
  refine br_intro (fun g => br_intro (fun _ => ?_) fun h => ?_) (fun g => br_intro (fun _ => ?_) fun h => ?_)
  · simp only [nC, if_pos g]; rfl
  · simp at h
  · have : ¬ nG x n = true := by simp [g]
    simp only [nC, if_neg this]
    cases okn n <;> rfl
  · have : ¬ nG x n = true := by simp [g]
    simp only [nB, if_neg this] at h
    simp at h
