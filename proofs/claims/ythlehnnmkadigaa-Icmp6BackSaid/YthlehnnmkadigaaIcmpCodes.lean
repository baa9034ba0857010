/- What a message's bytes are, and what bytes are parsed as: the conditions, and that they hold. -/
import Derived.Test.YthlehnnmkadigaaIcmpSum
import Derived.Test.YthlehnnmkadigaaEngX
set_option linter.unusedVariables false
set_option linter.unusedSimpArgs false
open Go Go.Proofs.Ythlehnnmkadigaa.Eng Go.RowKit Go.Proofs.Ythlehnnmkadigaa.SumMath
namespace Go.Proofs.Ythlehnnmkadigaa.SumRun
/-! num.Big: a number's bytes, or a fault. -/
def unNum (args : List AV) : Option (Int × Int) := match args with
  | [.i .i64 x, .i .i64 n] => some (x, n)
  | _ => none
def okBigN (q : Int × Int) : Prop := q.2 = 1 ∨ q.2 = 2 ∨ q.2 = 4
def eeBig (q : Int × Int) (n : Nat) : AV := .tu [.s ⟨#[]⟩, .ic 65 (.p n 0)]
def rowF (c : Int) : List AV := [.i .i64 c, .i .i64 0]
abbrev T39 (good : Int × Int → Prop) (Lv : Int → Int → ByteArray) : List AV → Hp → (AV → Hp → Prop) → Prop := tfault unNum okBigN good (fun q => .tu [.s (Lv q.1 q.2), .ni]) eeBig (fun _ => [.i .i64 13, .i .i64 0])
/-! the reader -/
def tU32 (V : ByteArray → Int) (args : List AV) (h : Hp) (K : AV → Hp → Prop) : Prop := match args with
  | [.p id 0] => match hcells h id with
    | some ([.s t, .i .i64 a, .pn], true) => Holds (a = 0) ∧ Holds (4 ≤ t.size ∧ t.size ≤ 1073741824) ∧ K (.tu [.i .i64 (V t), .ni]) (h.set id (.cells [.s t, .i .i64 4, .pn] true))
    | _ => False
  | _ => False
def t51 (V : ByteArray → Int) (args : List AV) (h : Hp) (K : AV → Hp → Prop) : Prop := match args with
  | [.p id 0, .i .i64 n] => match hcells h id with
    | some ([.s t, .i .i64 a, .pn], true) => Holds (a = 0 ∧ n = 4) ∧ Holds (4 ≤ t.size ∧ t.size ≤ 1073741824) ∧ K (.tu [.i .i64 (V t), .ni]) (h.set id (.cells [.s t, .i .i64 4, .pn] true))
    | _ => False
  | _ => False
def head51 : Nat → Option Head := fun r => match r with
  | 4 => some (Head.one (Get.and (Get.str 6) (Get.and (Get.int 8) (Get.and (Get.int 17) (Get.and (Get.int 18) (Get.rowAt 0))))) fun q => ⟨bads 6 ++ [.s q.1, .ni, .i .i64 q.2.1] ++ bads 8 ++ [.i .i64 q.2.2.1, .i .i64 q.2.2.2.1] ++ bads 12, [.cells q.2.2.2.2 true]⟩)
  | _ => none
abbrev T16 (Rv : List ByteArray → Bool) (V : ByteArray → Int) : TEnv := tcons 42 (tinl P tnil noW Go.Proofs.Try.f42) (tcons 43 (tlist .s okL fun l => .bo (Rv l)) (tcons 44 (tinl P tnil noW Go.Proofs.Try.f44) (tcons 45 (tU32 V) tnil)))
abbrev T166 (Rv : List ByteArray → Bool) (V : ByteArray → Int) : TEnv := tcons 47 (tinl P tnil noW Go.Proofs.Try.f47) (tcons 43 (tlist .s okL fun l => .bo (Rv l)) (tcons 44 (tinl P tnil noW Go.Proofs.Try.f44) (tcons 45 (tU32 V) tnil)))
abbrev T14 (good : Int × Int → Prop) (Lv : Int → Int → ByteArray) (Ov : List ByteArray → Int) : TEnv := tcons 39 (T39 good Lv) (tcons 40 (tlist .s okL fun l => .i .i64 (Ov l)) tnil)
abbrev T15 (Qv : ByteArray → Int) (Wv : ByteArray → List Int) : TEnv := tcons 41 (tstr smallS fun s => .i .i64 (Qv s)) (tcons 46 (t27 Wv) tnil)
def headB (p : ByteArray) (k c r : Int) (d : ByteArray) : Nat → Option Head := fun x => match x with
  | 1004 => some (Head.one (Get.rowAt 1) fun q => ⟨[.s p, .bad, .bad, .p 0 0, .bad, .bad, .sl 1 0 8 1 (some 8)] ++ bads 62, [.cells [.i .i64 k, .i .i64 c, .i .u32 r, .s d] true, .cells q true]⟩)
  | _ => none
theorem vc39_1 (x : Int) (R : AV → Hp → Prop) : (wpFn P tnil noW noL 0 Go.Proofs.Try.f39 [.i .i64 x, .i .i64 1] [] R) = (br (decide (x < (0 : Int))) (R (AV.tu [AV.s { data := #[] }, AV.ic (65 : Nat) (AV.p (0 : Nat) (0 : Nat))]) [Blk.cells [AV.i IntKind.i64 (13 : Int), AV.i IntKind.i64 (0 : Int)] true]) (Holds ((0 : Int) ≤ (8 : Int)) ∧ br (decide (x ≥ IntKind.wrap IntKind.i64 ((1 : Int) * (2 : Int) ^ min (Int.toNat (IntKind.wrap IntKind.i64 ((8 : Int) * (1 : Int)))) (IntKind.bits IntKind.i64)))) (R (AV.tu [AV.s { data := #[] }, AV.ic (65 : Nat) (AV.p (0 : Nat) (0 : Nat))]) [Blk.cells [AV.i IntKind.i64 (13 : Int), AV.i IntKind.i64 (0 : Int)] true]) (Holds ((0 : Int) ≤ (1 : Int) ∧ (1 : Int) ≤ (1 : Int) ∧ (1 : Int) ≤ (549755813888 : Int)) ∧ Holds ((0 : Int) ≤ (0 : Int)) ∧ Holds ((0 : Int) ≤ (0 : Int) ∧ (0 : Int) < (↑(Int.toNat (1 : Int)) : Int)) ∧ Holds ((1 : Nat) ≤ List.length [AV.i IntKind.u8 (0 : Int)]) ∧ Holds ((1 : Nat) ≤ List.length [AV.i IntKind.u8 (IntKind.wrap IntKind.u8 (Int.fdiv x ((2 : Int) ^ min (Int.toNat (IntKind.wrap IntKind.i64 ((8 : Int) * IntKind.wrap IntKind.i64 (IntKind.wrap IntKind.i64 ((1 : Int) - (1 : Int)) - (0 : Int))))) (IntKind.bits IntKind.i64))))]) ∧ ∃ (l : List Int), Holds (numsOf [AV.i IntKind.u8 (IntKind.wrap IntKind.u8 (Int.fdiv x ((2 : Int) ^ min (Int.toNat (IntKind.wrap IntKind.i64 ((8 : Int) * IntKind.wrap IntKind.i64 (IntKind.wrap IntKind.i64 ((1 : Int) - (1 : Int)) - (0 : Int))))) (IntKind.bits IntKind.i64))))] = some l) ∧ R (AV.tu [AV.s (textOf l), AV.ni]) [Blk.cells [AV.i IntKind.u8 (IntKind.wrap IntKind.u8 (Int.fdiv x ((2 : Int) ^ min (Int.toNat (IntKind.wrap IntKind.i64 ((8 : Int) * IntKind.wrap IntKind.i64 (IntKind.wrap IntKind.i64 ((1 : Int) - (1 : Int)) - (0 : Int))))) (IntKind.bits IntKind.i64))))] true]))) := by kernel_rfl
theorem vc39_2 (x : Int) (R : AV → Hp → Prop) : (wpFn P tnil noW noL 0 Go.Proofs.Try.f39 [.i .i64 x, .i .i64 2] [] R) = (br (decide (x < (0 : Int))) (R (AV.tu [AV.s { data := #[] }, AV.ic (65 : Nat) (AV.p (0 : Nat) (0 : Nat))]) [Blk.cells [AV.i IntKind.i64 (13 : Int), AV.i IntKind.i64 (0 : Int)] true]) (Holds ((0 : Int) ≤ (16 : Int)) ∧ br (decide (x ≥ IntKind.wrap IntKind.i64 ((1 : Int) * (2 : Int) ^ min (Int.toNat (IntKind.wrap IntKind.i64 ((8 : Int) * (2 : Int)))) (IntKind.bits IntKind.i64)))) (R (AV.tu [AV.s { data := #[] }, AV.ic (65 : Nat) (AV.p (0 : Nat) (0 : Nat))]) [Blk.cells [AV.i IntKind.i64 (13 : Int), AV.i IntKind.i64 (0 : Int)] true]) (Holds ((0 : Int) ≤ (2 : Int) ∧ (2 : Int) ≤ (2 : Int) ∧ (2 : Int) ≤ (549755813888 : Int)) ∧ Holds ((0 : Int) ≤ (8 : Int)) ∧ Holds ((0 : Int) ≤ (0 : Int) ∧ (0 : Int) < (↑(Int.toNat (2 : Int)) : Int)) ∧ Holds ((1 : Nat) ≤ List.length [AV.i IntKind.u8 (0 : Int), AV.i IntKind.u8 (0 : Int)]) ∧ Holds ((0 : Int) ≤ (0 : Int)) ∧ Holds ((0 : Int) ≤ IntKind.wrap IntKind.i64 ((0 : Int) + (1 : Int)) ∧ IntKind.wrap IntKind.i64 ((0 : Int) + (1 : Int)) < (↑(Int.toNat (2 : Int)) : Int)) ∧ Holds ((2 : Nat) ≤ List.length [AV.i IntKind.u8 (IntKind.wrap IntKind.u8 (Int.fdiv x ((2 : Int) ^ min (Int.toNat (IntKind.wrap IntKind.i64 ((8 : Int) * IntKind.wrap IntKind.i64 (IntKind.wrap IntKind.i64 ((2 : Int) - (1 : Int)) - (0 : Int))))) (IntKind.bits IntKind.i64)))), AV.i IntKind.u8 (0 : Int)]) ∧ Holds ((2 : Nat) ≤ List.length [AV.i IntKind.u8 (IntKind.wrap IntKind.u8 (Int.fdiv x ((2 : Int) ^ min (Int.toNat (IntKind.wrap IntKind.i64 ((8 : Int) * IntKind.wrap IntKind.i64 (IntKind.wrap IntKind.i64 ((2 : Int) - (1 : Int)) - (0 : Int))))) (IntKind.bits IntKind.i64)))), AV.i IntKind.u8 (IntKind.wrap IntKind.u8 (Int.fdiv x ((2 : Int) ^ min (Int.toNat (IntKind.wrap IntKind.i64 ((8 : Int) * IntKind.wrap IntKind.i64 (IntKind.wrap IntKind.i64 ((2 : Int) - (1 : Int)) - IntKind.wrap IntKind.i64 ((0 : Int) + (1 : Int)))))) (IntKind.bits IntKind.i64))))]) ∧ ∃ (l : List Int), Holds (numsOf [AV.i IntKind.u8 (IntKind.wrap IntKind.u8 (Int.fdiv x ((2 : Int) ^ min (Int.toNat (IntKind.wrap IntKind.i64 ((8 : Int) * IntKind.wrap IntKind.i64 (IntKind.wrap IntKind.i64 ((2 : Int) - (1 : Int)) - (0 : Int))))) (IntKind.bits IntKind.i64)))), AV.i IntKind.u8 (IntKind.wrap IntKind.u8 (Int.fdiv x ((2 : Int) ^ min (Int.toNat (IntKind.wrap IntKind.i64 ((8 : Int) * IntKind.wrap IntKind.i64 (IntKind.wrap IntKind.i64 ((2 : Int) - (1 : Int)) - IntKind.wrap IntKind.i64 ((0 : Int) + (1 : Int)))))) (IntKind.bits IntKind.i64))))] = some l) ∧ R (AV.tu [AV.s (textOf l), AV.ni]) [Blk.cells [AV.i IntKind.u8 (IntKind.wrap IntKind.u8 (Int.fdiv x ((2 : Int) ^ min (Int.toNat (IntKind.wrap IntKind.i64 ((8 : Int) * IntKind.wrap IntKind.i64 (IntKind.wrap IntKind.i64 ((2 : Int) - (1 : Int)) - (0 : Int))))) (IntKind.bits IntKind.i64)))), AV.i IntKind.u8 (IntKind.wrap IntKind.u8 (Int.fdiv x ((2 : Int) ^ min (Int.toNat (IntKind.wrap IntKind.i64 ((8 : Int) * IntKind.wrap IntKind.i64 (IntKind.wrap IntKind.i64 ((2 : Int) - (1 : Int)) - IntKind.wrap IntKind.i64 ((0 : Int) + (1 : Int)))))) (IntKind.bits IntKind.i64))))] true]))) := by kernel_rfl
theorem vc39_4 (x : Int) (R : AV → Hp → Prop) : (wpFn P tnil noW noL 0 Go.Proofs.Try.f39 [.i .i64 x, .i .i64 4] [] R) = (br (decide (x < (0 : Int))) (R (AV.tu [AV.s { data := #[] }, AV.ic (65 : Nat) (AV.p (0 : Nat) (0 : Nat))]) [Blk.cells [AV.i IntKind.i64 (13 : Int), AV.i IntKind.i64 (0 : Int)] true]) (Holds ((0 : Int) ≤ (32 : Int)) ∧ br (decide (x ≥ IntKind.wrap IntKind.i64 ((1 : Int) * (2 : Int) ^ min (Int.toNat (IntKind.wrap IntKind.i64 ((8 : Int) * (4 : Int)))) (IntKind.bits IntKind.i64)))) (R (AV.tu [AV.s { data := #[] }, AV.ic (65 : Nat) (AV.p (0 : Nat) (0 : Nat))]) [Blk.cells [AV.i IntKind.i64 (13 : Int), AV.i IntKind.i64 (0 : Int)] true]) (Holds ((0 : Int) ≤ (4 : Int) ∧ (4 : Int) ≤ (4 : Int) ∧ (4 : Int) ≤ (549755813888 : Int)) ∧ Holds ((0 : Int) ≤ (24 : Int)) ∧ Holds ((0 : Int) ≤ (0 : Int) ∧ (0 : Int) < (↑(Int.toNat (4 : Int)) : Int)) ∧ Holds ((1 : Nat) ≤ List.length [AV.i IntKind.u8 (0 : Int), AV.i IntKind.u8 (0 : Int), AV.i IntKind.u8 (0 : Int), AV.i IntKind.u8 (0 : Int)]) ∧ Holds ((0 : Int) ≤ (16 : Int)) ∧ Holds ((0 : Int) ≤ IntKind.wrap IntKind.i64 ((0 : Int) + (1 : Int)) ∧ IntKind.wrap IntKind.i64 ((0 : Int) + (1 : Int)) < (↑(Int.toNat (4 : Int)) : Int)) ∧ Holds ((2 : Nat) ≤ List.length [AV.i IntKind.u8 (IntKind.wrap IntKind.u8 (Int.fdiv x ((2 : Int) ^ min (Int.toNat (IntKind.wrap IntKind.i64 ((8 : Int) * IntKind.wrap IntKind.i64 (IntKind.wrap IntKind.i64 ((4 : Int) - (1 : Int)) - (0 : Int))))) (IntKind.bits IntKind.i64)))), AV.i IntKind.u8 (0 : Int), AV.i IntKind.u8 (0 : Int), AV.i IntKind.u8 (0 : Int)]) ∧ Holds ((0 : Int) ≤ (8 : Int)) ∧ Holds ((0 : Int) ≤ IntKind.wrap IntKind.i64 (IntKind.wrap IntKind.i64 ((0 : Int) + (1 : Int)) + (1 : Int)) ∧ IntKind.wrap IntKind.i64 (IntKind.wrap IntKind.i64 ((0 : Int) + (1 : Int)) + (1 : Int)) < (↑(Int.toNat (4 : Int)) : Int)) ∧ Holds ((3 : Nat) ≤ List.length [AV.i IntKind.u8 (IntKind.wrap IntKind.u8 (Int.fdiv x ((2 : Int) ^ min (Int.toNat (IntKind.wrap IntKind.i64 ((8 : Int) * IntKind.wrap IntKind.i64 (IntKind.wrap IntKind.i64 ((4 : Int) - (1 : Int)) - (0 : Int))))) (IntKind.bits IntKind.i64)))), AV.i IntKind.u8 (IntKind.wrap IntKind.u8 (Int.fdiv x ((2 : Int) ^ min (Int.toNat (IntKind.wrap IntKind.i64 ((8 : Int) * IntKind.wrap IntKind.i64 (IntKind.wrap IntKind.i64 ((4 : Int) - (1 : Int)) - IntKind.wrap IntKind.i64 ((0 : Int) + (1 : Int)))))) (IntKind.bits IntKind.i64)))), AV.i IntKind.u8 (0 : Int), AV.i IntKind.u8 (0 : Int)]) ∧ Holds ((0 : Int) ≤ (0 : Int)) ∧ Holds ((0 : Int) ≤ IntKind.wrap IntKind.i64 (IntKind.wrap IntKind.i64 (IntKind.wrap IntKind.i64 ((0 : Int) + (1 : Int)) + (1 : Int)) + (1 : Int)) ∧ IntKind.wrap IntKind.i64 (IntKind.wrap IntKind.i64 (IntKind.wrap IntKind.i64 ((0 : Int) + (1 : Int)) + (1 : Int)) + (1 : Int)) < (↑(Int.toNat (4 : Int)) : Int)) ∧ Holds ((4 : Nat) ≤ List.length [AV.i IntKind.u8 (IntKind.wrap IntKind.u8 (Int.fdiv x ((2 : Int) ^ min (Int.toNat (IntKind.wrap IntKind.i64 ((8 : Int) * IntKind.wrap IntKind.i64 (IntKind.wrap IntKind.i64 ((4 : Int) - (1 : Int)) - (0 : Int))))) (IntKind.bits IntKind.i64)))), AV.i IntKind.u8 (IntKind.wrap IntKind.u8 (Int.fdiv x ((2 : Int) ^ min (Int.toNat (IntKind.wrap IntKind.i64 ((8 : Int) * IntKind.wrap IntKind.i64 (IntKind.wrap IntKind.i64 ((4 : Int) - (1 : Int)) - IntKind.wrap IntKind.i64 ((0 : Int) + (1 : Int)))))) (IntKind.bits IntKind.i64)))), AV.i IntKind.u8 (IntKind.wrap IntKind.u8 (Int.fdiv x ((2 : Int) ^ min (Int.toNat (IntKind.wrap IntKind.i64 ((8 : Int) * IntKind.wrap IntKind.i64 (IntKind.wrap IntKind.i64 ((4 : Int) - (1 : Int)) - IntKind.wrap IntKind.i64 (IntKind.wrap IntKind.i64 ((0 : Int) + (1 : Int)) + (1 : Int)))))) (IntKind.bits IntKind.i64)))), AV.i IntKind.u8 (0 : Int)]) ∧ Holds ((4 : Nat) ≤ List.length [AV.i IntKind.u8 (IntKind.wrap IntKind.u8 (Int.fdiv x ((2 : Int) ^ min (Int.toNat (IntKind.wrap IntKind.i64 ((8 : Int) * IntKind.wrap IntKind.i64 (IntKind.wrap IntKind.i64 ((4 : Int) - (1 : Int)) - (0 : Int))))) (IntKind.bits IntKind.i64)))), AV.i IntKind.u8 (IntKind.wrap IntKind.u8 (Int.fdiv x ((2 : Int) ^ min (Int.toNat (IntKind.wrap IntKind.i64 ((8 : Int) * IntKind.wrap IntKind.i64 (IntKind.wrap IntKind.i64 ((4 : Int) - (1 : Int)) - IntKind.wrap IntKind.i64 ((0 : Int) + (1 : Int)))))) (IntKind.bits IntKind.i64)))), AV.i IntKind.u8 (IntKind.wrap IntKind.u8 (Int.fdiv x ((2 : Int) ^ min (Int.toNat (IntKind.wrap IntKind.i64 ((8 : Int) * IntKind.wrap IntKind.i64 (IntKind.wrap IntKind.i64 ((4 : Int) - (1 : Int)) - IntKind.wrap IntKind.i64 (IntKind.wrap IntKind.i64 ((0 : Int) + (1 : Int)) + (1 : Int)))))) (IntKind.bits IntKind.i64)))), AV.i IntKind.u8 (IntKind.wrap IntKind.u8 (Int.fdiv x ((2 : Int) ^ min (Int.toNat (IntKind.wrap IntKind.i64 ((8 : Int) * IntKind.wrap IntKind.i64 (IntKind.wrap IntKind.i64 ((4 : Int) - (1 : Int)) - IntKind.wrap IntKind.i64 (IntKind.wrap IntKind.i64 (IntKind.wrap IntKind.i64 ((0 : Int) + (1 : Int)) + (1 : Int)) + (1 : Int)))))) (IntKind.bits IntKind.i64))))]) ∧ ∃ (l : List Int), Holds (numsOf [AV.i IntKind.u8 (IntKind.wrap IntKind.u8 (Int.fdiv x ((2 : Int) ^ min (Int.toNat (IntKind.wrap IntKind.i64 ((8 : Int) * IntKind.wrap IntKind.i64 (IntKind.wrap IntKind.i64 ((4 : Int) - (1 : Int)) - (0 : Int))))) (IntKind.bits IntKind.i64)))), AV.i IntKind.u8 (IntKind.wrap IntKind.u8 (Int.fdiv x ((2 : Int) ^ min (Int.toNat (IntKind.wrap IntKind.i64 ((8 : Int) * IntKind.wrap IntKind.i64 (IntKind.wrap IntKind.i64 ((4 : Int) - (1 : Int)) - IntKind.wrap IntKind.i64 ((0 : Int) + (1 : Int)))))) (IntKind.bits IntKind.i64)))), AV.i IntKind.u8 (IntKind.wrap IntKind.u8 (Int.fdiv x ((2 : Int) ^ min (Int.toNat (IntKind.wrap IntKind.i64 ((8 : Int) * IntKind.wrap IntKind.i64 (IntKind.wrap IntKind.i64 ((4 : Int) - (1 : Int)) - IntKind.wrap IntKind.i64 (IntKind.wrap IntKind.i64 ((0 : Int) + (1 : Int)) + (1 : Int)))))) (IntKind.bits IntKind.i64)))), AV.i IntKind.u8 (IntKind.wrap IntKind.u8 (Int.fdiv x ((2 : Int) ^ min (Int.toNat (IntKind.wrap IntKind.i64 ((8 : Int) * IntKind.wrap IntKind.i64 (IntKind.wrap IntKind.i64 ((4 : Int) - (1 : Int)) - IntKind.wrap IntKind.i64 (IntKind.wrap IntKind.i64 (IntKind.wrap IntKind.i64 ((0 : Int) + (1 : Int)) + (1 : Int)) + (1 : Int)))))) (IntKind.bits IntKind.i64))))] = some l) ∧ R (AV.tu [AV.s (textOf l), AV.ni]) [Blk.cells [AV.i IntKind.u8 (IntKind.wrap IntKind.u8 (Int.fdiv x ((2 : Int) ^ min (Int.toNat (IntKind.wrap IntKind.i64 ((8 : Int) * IntKind.wrap IntKind.i64 (IntKind.wrap IntKind.i64 ((4 : Int) - (1 : Int)) - (0 : Int))))) (IntKind.bits IntKind.i64)))), AV.i IntKind.u8 (IntKind.wrap IntKind.u8 (Int.fdiv x ((2 : Int) ^ min (Int.toNat (IntKind.wrap IntKind.i64 ((8 : Int) * IntKind.wrap IntKind.i64 (IntKind.wrap IntKind.i64 ((4 : Int) - (1 : Int)) - IntKind.wrap IntKind.i64 ((0 : Int) + (1 : Int)))))) (IntKind.bits IntKind.i64)))), AV.i IntKind.u8 (IntKind.wrap IntKind.u8 (Int.fdiv x ((2 : Int) ^ min (Int.toNat (IntKind.wrap IntKind.i64 ((8 : Int) * IntKind.wrap IntKind.i64 (IntKind.wrap IntKind.i64 ((4 : Int) - (1 : Int)) - IntKind.wrap IntKind.i64 (IntKind.wrap IntKind.i64 ((0 : Int) + (1 : Int)) + (1 : Int)))))) (IntKind.bits IntKind.i64)))), AV.i IntKind.u8 (IntKind.wrap IntKind.u8 (Int.fdiv x ((2 : Int) ^ min (Int.toNat (IntKind.wrap IntKind.i64 ((8 : Int) * IntKind.wrap IntKind.i64 (IntKind.wrap IntKind.i64 ((4 : Int) - (1 : Int)) - IntKind.wrap IntKind.i64 (IntKind.wrap IntKind.i64 (IntKind.wrap IntKind.i64 ((0 : Int) + (1 : Int)) + (1 : Int)) + (1 : Int)))))) (IntKind.bits IntKind.i64))))] true]))) := by kernel_rfl
theorem vc51 (t : ByteArray) (R : AV → Hp → Prop) : (wpFn P (tcons 52 (tinl P tnil noW Go.Proofs.Try.f52) tnil) noW head51 1 Go.Proofs.Try.f51 [.p 0 0, .i .i64 4] [.cells [.s t, .i .i64 0, .pn] true] R) = (∃ (s : ByteArray), Holds ([AV.s t, AV.i IntKind.i64 (0 : Int), AV.pn][(0 : Nat)]? = some (AV.s s)) ∧ ∃ (n : Int), Holds ([AV.s t, AV.i IntKind.i64 (0 : Int), AV.pn][(1 : Nat)]? = some (AV.i IntKind.i64 n)) ∧ br (decide ((4 : Int) > IntKind.wrap IntKind.i64 ((↑(ByteArray.size s) : Int) - n))) (∃ (n : Int), Holds ([AV.s t, AV.i IntKind.i64 (0 : Int), AV.pn][(1 : Nat)]? = some (AV.i IntKind.i64 n)) ∧ Holds ((3 : Nat) ≤ List.length [AV.s t, AV.i IntKind.i64 (0 : Int), AV.pn]) ∧ Holds ((2 : Nat) ≤ List.length [AV.i IntKind.i64 (0 : Int), AV.i IntKind.i64 (0 : Int)]) ∧ Wk (1 : Nat) { t := [.bad, .bad, .bad, .bad, .bad, .bad, AV.s { data := #[] }, AV.ic (65 : Nat) (AV.p (2 : Nat) (0 : Nat)), AV.i IntKind.i64 (0 : Int), .bad, .bad, .bad, .bad, .bad, .bad, .bad, .bad, AV.i IntKind.i64 (0 : Int), AV.i IntKind.i64 (0 : Int), .bad, .bad, .bad, .bad, .bad, .bad, .bad, .bad, .bad, .bad, .bad, .bad], h := [Blk.cells [AV.s t, AV.i IntKind.i64 (0 : Int), AV.p (1 : Nat) (0 : Nat)] true, Blk.cells [AV.i IntKind.i64 (7 : Int), AV.i IntKind.i64 n] true, Blk.cells [AV.i IntKind.i64 (7 : Int), AV.i IntKind.i64 n] true] } { t := [.bad, .bad, .bad, .bad, .bad, .bad, AV.s { data := #[] }, AV.ni, AV.i IntKind.i64 (0 : Int), .bad, .bad, .bad, .bad, .bad, .bad, .bad, .bad, AV.i IntKind.i64 (0 : Int), AV.i IntKind.i64 (0 : Int), .bad, .bad, .bad, .bad, .bad, .bad, .bad, .bad, .bad, .bad, .bad, .bad], h := [Blk.cells [AV.s t, AV.i IntKind.i64 (0 : Int), AV.p (1 : Nat) (0 : Nat)] true] } ∧ ∃ (I : Nat → ByteArray × Int × Int × Int × List AV → Prop), ∃ (n : Nat), I n ({ data := #[] }, (0 : Int), (0 : Int), (0 : Int), [AV.s t, AV.i IntKind.i64 (0 : Int), AV.p (1 : Nat) (0 : Nat)]) ∧ ∀ (a : ByteArray × Int × Int × Int × List AV) (n : Nat), I n a → br (decide (Prod.fst (Prod.snd (Prod.snd (Prod.snd a))) < Prod.fst (Prod.snd (Prod.snd a)))) (Holds ((0 : Int) ≤ Prod.fst (Prod.snd (Prod.snd (Prod.snd a)))) ∧ ∃ (b : UInt8), Holds ((Prod.fst a)[Int.toNat (Prod.fst (Prod.snd (Prod.snd (Prod.snd a))))]? = some b) ∧ Wk (1 : Nat) { t := [.bad, .bad, .bad, .bad, .bad, .bad, AV.s (Prod.fst a), AV.ni, AV.i IntKind.i64 (bits BinOp.or IntKind.i64 (IntKind.wrap IntKind.i64 (Prod.fst (Prod.snd a) * (2 : Int) ^ min (Int.toNat (8 : Int)) (IntKind.bits IntKind.i64))) (IntKind.wrap IntKind.i64 (↑(UInt8.toNat b) : Int))), .bad, .bad, .bad, .bad, .bad, .bad, .bad, .bad, AV.i IntKind.i64 (Prod.fst (Prod.snd (Prod.snd a))), AV.i IntKind.i64 (IntKind.wrap IntKind.i64 (Prod.fst (Prod.snd (Prod.snd (Prod.snd a))) + (1 : Int))), .bad, .bad, .bad, .bad, .bad, .bad, .bad, .bad, .bad, .bad, .bad, .bad], h := [Blk.cells (Prod.snd (Prod.snd (Prod.snd (Prod.snd a)))) true] } { t := [.bad, .bad, .bad, .bad, .bad, .bad, AV.s a.1, AV.ni, AV.i IntKind.i64 (bits BinOp.or IntKind.i64 (IntKind.wrap IntKind.i64 (Prod.fst (Prod.snd a) * (2 : Int) ^ min (Int.toNat (8 : Int)) (IntKind.bits IntKind.i64))) (IntKind.wrap IntKind.i64 (↑(UInt8.toNat b) : Int))), .bad, .bad, .bad, .bad, .bad, .bad, .bad, .bad, AV.i IntKind.i64 (Prod.snd (Prod.snd a)).1, AV.i IntKind.i64 (IntKind.wrap IntKind.i64 (Prod.fst (Prod.snd (Prod.snd (Prod.snd a))) + (1 : Int))), .bad, .bad, .bad, .bad, .bad, .bad, .bad, .bad, .bad, .bad, .bad, .bad], h := [Blk.cells (Prod.snd (Prod.snd (Prod.snd a))).2 true] } ∧ ∃ (m : Nat), Holds (m < n) ∧ I m (Prod.fst a, bits BinOp.or IntKind.i64 (IntKind.wrap IntKind.i64 (Prod.fst (Prod.snd a) * (2 : Int) ^ min (Int.toNat (8 : Int)) (IntKind.bits IntKind.i64))) (IntKind.wrap IntKind.i64 (↑(UInt8.toNat b) : Int)), Prod.fst (Prod.snd (Prod.snd a)), IntKind.wrap IntKind.i64 (Prod.fst (Prod.snd (Prod.snd (Prod.snd a))) + (1 : Int)), Prod.snd (Prod.snd (Prod.snd (Prod.snd a))))) (R (AV.tu [AV.i IntKind.i64 (Prod.fst (Prod.snd a)), AV.ni]) [Blk.cells (Prod.snd (Prod.snd (Prod.snd (Prod.snd a)))) true])) (∃ (s : ByteArray), Holds ([AV.s t, AV.i IntKind.i64 (0 : Int), AV.pn][(0 : Nat)]? = some (AV.s s)) ∧ ∃ (n : Int), Holds ([AV.s t, AV.i IntKind.i64 (0 : Int), AV.pn][(1 : Nat)]? = some (AV.i IntKind.i64 n)) ∧ ∃ (n_1 : Int), Holds ([AV.s t, AV.i IntKind.i64 (0 : Int), AV.pn][(1 : Nat)]? = some (AV.i IntKind.i64 n_1)) ∧ Holds ((0 : Int) ≤ IntKind.wrap IntKind.i64 (n_1 + (4 : Int)) ∧ IntKind.wrap IntKind.i64 (n_1 + (4 : Int)) ≤ (↑(ByteArray.size s) : Int)) ∧ Holds ((0 : Int) ≤ n ∧ n ≤ (↑(Int.toNat (IntKind.wrap IntKind.i64 (n_1 + (4 : Int)))) : Int)) ∧ ∃ (n_2 : Int), Holds ([AV.s t, AV.i IntKind.i64 (0 : Int), AV.pn][(1 : Nat)]? = some (AV.i IntKind.i64 n_2)) ∧ Holds ((2 : Nat) ≤ List.length [AV.s t, AV.i IntKind.i64 (0 : Int), AV.pn]) ∧ Wk (1 : Nat) { t := [.bad, .bad, .bad, .bad, .bad, .bad, AV.s (ByteArray.extract s (Int.toNat n) (Int.toNat (IntKind.wrap IntKind.i64 (n_1 + (4 : Int))))), AV.ni, AV.i IntKind.i64 (0 : Int), .bad, .bad, .bad, .bad, .bad, .bad, .bad, .bad, AV.i IntKind.i64 (↑(ByteArray.size (ByteArray.extract s (Int.toNat n) (Int.toNat (IntKind.wrap IntKind.i64 (n_1 + (4 : Int)))))) : Int), AV.i IntKind.i64 (0 : Int), .bad, .bad, .bad, .bad, .bad, .bad, .bad, .bad, .bad, .bad, .bad, .bad], h := [Blk.cells [AV.s t, AV.i IntKind.i64 (IntKind.wrap IntKind.i64 (n_2 + (4 : Int))), AV.pn] true] } { t := [.bad, .bad, .bad, .bad, .bad, .bad, AV.s (ByteArray.extract s (Int.toNat n) (Int.toNat (IntKind.wrap IntKind.i64 (n_1 + (4 : Int))))), AV.ni, AV.i IntKind.i64 (0 : Int), .bad, .bad, .bad, .bad, .bad, .bad, .bad, .bad, AV.i IntKind.i64 (↑(ByteArray.size (ByteArray.extract s (Int.toNat n) (Int.toNat (IntKind.wrap IntKind.i64 (n_1 + (4 : Int)))))) : Int), AV.i IntKind.i64 (0 : Int), .bad, .bad, .bad, .bad, .bad, .bad, .bad, .bad, .bad, .bad, .bad, .bad], h := [Blk.cells [AV.s t, AV.i IntKind.i64 (IntKind.wrap IntKind.i64 (n_2 + (4 : Int))), AV.pn] true] } ∧ ∃ (I : Nat → ByteArray × Int × Int × Int × List AV → Prop), ∃ (n_3 : Nat), I n_3 (ByteArray.extract s (Int.toNat n) (Int.toNat (IntKind.wrap IntKind.i64 (n_1 + (4 : Int)))), (0 : Int), (↑(ByteArray.size (ByteArray.extract s (Int.toNat n) (Int.toNat (IntKind.wrap IntKind.i64 (n_1 + (4 : Int)))))) : Int), (0 : Int), [AV.s t, AV.i IntKind.i64 (IntKind.wrap IntKind.i64 (n_2 + (4 : Int))), AV.pn]) ∧ ∀ (a : ByteArray × Int × Int × Int × List AV) (n : Nat), I n a → br (decide (Prod.fst (Prod.snd (Prod.snd (Prod.snd a))) < Prod.fst (Prod.snd (Prod.snd a)))) (Holds ((0 : Int) ≤ Prod.fst (Prod.snd (Prod.snd (Prod.snd a)))) ∧ ∃ (b : UInt8), Holds ((Prod.fst a)[Int.toNat (Prod.fst (Prod.snd (Prod.snd (Prod.snd a))))]? = some b) ∧ Wk (1 : Nat) { t := [.bad, .bad, .bad, .bad, .bad, .bad, AV.s (Prod.fst a), AV.ni, AV.i IntKind.i64 (bits BinOp.or IntKind.i64 (IntKind.wrap IntKind.i64 (Prod.fst (Prod.snd a) * (2 : Int) ^ min (Int.toNat (8 : Int)) (IntKind.bits IntKind.i64))) (IntKind.wrap IntKind.i64 (↑(UInt8.toNat b) : Int))), .bad, .bad, .bad, .bad, .bad, .bad, .bad, .bad, AV.i IntKind.i64 (Prod.fst (Prod.snd (Prod.snd a))), AV.i IntKind.i64 (IntKind.wrap IntKind.i64 (Prod.fst (Prod.snd (Prod.snd (Prod.snd a))) + (1 : Int))), .bad, .bad, .bad, .bad, .bad, .bad, .bad, .bad, .bad, .bad, .bad, .bad], h := [Blk.cells (Prod.snd (Prod.snd (Prod.snd (Prod.snd a)))) true] } { t := [.bad, .bad, .bad, .bad, .bad, .bad, AV.s a.1, AV.ni, AV.i IntKind.i64 (bits BinOp.or IntKind.i64 (IntKind.wrap IntKind.i64 (Prod.fst (Prod.snd a) * (2 : Int) ^ min (Int.toNat (8 : Int)) (IntKind.bits IntKind.i64))) (IntKind.wrap IntKind.i64 (↑(UInt8.toNat b) : Int))), .bad, .bad, .bad, .bad, .bad, .bad, .bad, .bad, AV.i IntKind.i64 (Prod.snd (Prod.snd a)).1, AV.i IntKind.i64 (IntKind.wrap IntKind.i64 (Prod.fst (Prod.snd (Prod.snd (Prod.snd a))) + (1 : Int))), .bad, .bad, .bad, .bad, .bad, .bad, .bad, .bad, .bad, .bad, .bad, .bad], h := [Blk.cells (Prod.snd (Prod.snd (Prod.snd a))).2 true] } ∧ ∃ (m : Nat), Holds (m < n) ∧ I m (Prod.fst a, bits BinOp.or IntKind.i64 (IntKind.wrap IntKind.i64 (Prod.fst (Prod.snd a) * (2 : Int) ^ min (Int.toNat (8 : Int)) (IntKind.bits IntKind.i64))) (IntKind.wrap IntKind.i64 (↑(UInt8.toNat b) : Int)), Prod.fst (Prod.snd (Prod.snd a)), IntKind.wrap IntKind.i64 (Prod.fst (Prod.snd (Prod.snd (Prod.snd a))) + (1 : Int)), Prod.snd (Prod.snd (Prod.snd (Prod.snd a))))) (R (AV.tu [AV.i IntKind.i64 (Prod.fst (Prod.snd a)), AV.ni]) [Blk.cells (Prod.snd (Prod.snd (Prod.snd (Prod.snd a)))) true]))) := by kernel_rfl
theorem vc45 (V : ByteArray → Int) (t : ByteArray) (R : AV → Hp → Prop) : (wpFn P (tcons 51 (t51 V) tnil) noW noL 1 Go.Proofs.Try.f45 [.p 0 0] [.cells [.s t, .i .i64 0, .pn] true] R) = (Holds ((0 : Int) = (0 : Int) ∧ (4 : Int) = (4 : Int)) ∧ Holds ((4 : Nat) ≤ ByteArray.size t ∧ ByteArray.size t ≤ (1073741824 : Nat)) ∧ R (AV.tu [AV.i IntKind.i64 (V t), AV.ni]) [Blk.cells [AV.s t, AV.i IntKind.i64 (4 : Int), AV.pn] true]) := by kernel_rfl
theorem vcm14 (good : Int × Int → Prop) (Lv : Int → Int → ByteArray) (Ov : List ByteArray → Int) (k c r : Int) (d : ByteArray) (R : AV → Hp → Prop) : (wpFn P (T14 good Lv Ov) noW noL 0 Go.Proofs.Try.f14 [.ag [.i .i64 k, .i .i64 c, .i .u32 r, .s d]] [] R) = (∃ (n : Int), Holds ([AV.i IntKind.i64 k, AV.i IntKind.i64 c, AV.i IntKind.u32 r, AV.s d][(0 : Nat)]? = some (AV.i IntKind.i64 n)) ∧ Holds (okBigN (n, (1 : Int))) ∧ (Holds (good (n, (1 : Int))) → ∃ (n_1 : Int), Holds ([AV.i IntKind.i64 k, AV.i IntKind.i64 c, AV.i IntKind.u32 r, AV.s d][(1 : Nat)]? = some (AV.i IntKind.i64 n_1)) ∧ Holds (okBigN (n_1, (1 : Int))) ∧ (Holds (good (n_1, (1 : Int))) → ∃ (n_2 : Int), Holds ([AV.i IntKind.i64 k, AV.i IntKind.i64 c, AV.i IntKind.u32 r, AV.s d][(2 : Nat)]? = some (AV.i IntKind.u32 n_2)) ∧ Holds (okBigN (IntKind.wrap IntKind.i64 n_2, (4 : Int))) ∧ (Holds (good (IntKind.wrap IntKind.i64 n_2, (4 : Int))) → ∃ (s : ByteArray), Holds ([AV.i IntKind.i64 k, AV.i IntKind.i64 c, AV.i IntKind.u32 r, AV.s d][(3 : Nat)]? = some (AV.s s)) ∧ ∃ (l : List ByteArray), Holds ([AV.s (Lv n (1 : Int)), AV.s (Lv n_1 (1 : Int)), AV.s { data := #[(0 : UInt8), (0 : UInt8)] }, AV.s (Lv (IntKind.wrap IntKind.i64 n_2) (4 : Int)), AV.s s] = List.map AV.s l) ∧ Holds (List.length l = (5 : Nat)) ∧ Holds (okL l) ∧ Holds (okBigN (Ov l, (2 : Int))) ∧ (Holds (good (Ov l, (2 : Int))) → Holds (ByteArray.size (Lv (Prod.fst (n, (1 : Int))) (Prod.snd (n, (1 : Int)))) + ByteArray.size (Lv (Prod.fst (n_1, (1 : Int))) (Prod.snd (n_1, (1 : Int)))) ≤ (9223372036854775807 : Nat)) ∧ Holds (ByteArray.size (Lv (Prod.fst (n, (1 : Int))) (Prod.snd (n, (1 : Int))) ++ Lv (Prod.fst (n_1, (1 : Int))) (Prod.snd (n_1, (1 : Int)))) + ByteArray.size (Lv (Prod.fst (Ov l, (2 : Int))) (Prod.snd (Ov l, (2 : Int)))) ≤ (9223372036854775807 : Nat)) ∧ Holds (ByteArray.size (Lv (Prod.fst (n, (1 : Int))) (Prod.snd (n, (1 : Int))) ++ Lv (Prod.fst (n_1, (1 : Int))) (Prod.snd (n_1, (1 : Int))) ++ Lv (Prod.fst (Ov l, (2 : Int))) (Prod.snd (Ov l, (2 : Int)))) + ByteArray.size (Lv (Prod.fst (IntKind.wrap IntKind.i64 n_2, (4 : Int))) (Prod.snd (IntKind.wrap IntKind.i64 n_2, (4 : Int)))) ≤ (9223372036854775807 : Nat)) ∧ ∃ (s_1 : ByteArray), Holds ([AV.i IntKind.i64 k, AV.i IntKind.i64 c, AV.i IntKind.u32 r, AV.s d][(3 : Nat)]? = some (AV.s s_1)) ∧ Holds (ByteArray.size (Lv (Prod.fst (n, (1 : Int))) (Prod.snd (n, (1 : Int))) ++ Lv (Prod.fst (n_1, (1 : Int))) (Prod.snd (n_1, (1 : Int))) ++ Lv (Prod.fst (Ov l, (2 : Int))) (Prod.snd (Ov l, (2 : Int))) ++ Lv (Prod.fst (IntKind.wrap IntKind.i64 n_2, (4 : Int))) (Prod.snd (IntKind.wrap IntKind.i64 n_2, (4 : Int)))) + ByteArray.size s_1 ≤ (9223372036854775807 : Nat)) ∧ R (AV.tu [AV.s (Lv n (1 : Int) ++ Lv n_1 (1 : Int) ++ Lv (Ov l) (2 : Int) ++ Lv (IntKind.wrap IntKind.i64 n_2) (4 : Int) ++ s_1), AV.ni]) [Blk.cells [AV.i IntKind.i64 k, AV.i IntKind.i64 c, AV.i IntKind.u32 r, AV.s d] true, Blk.cells [AV.s (Lv n (1 : Int)), AV.s (Lv n_1 (1 : Int)), AV.s { data := #[(0 : UInt8), (0 : UInt8)] }, AV.s (Lv (IntKind.wrap IntKind.i64 n_2) (4 : Int)), AV.s s] true]) ∧ (Holds ¬good (Ov l, (2 : Int)) → Holds (ByteArray.size (Lv (Prod.fst (n, (1 : Int))) (Prod.snd (n, (1 : Int)))) + ByteArray.size (Lv (Prod.fst (n_1, (1 : Int))) (Prod.snd (n_1, (1 : Int)))) ≤ (9223372036854775807 : Nat)) ∧ Holds (ByteArray.size (Lv (Prod.fst (n, (1 : Int))) (Prod.snd (n, (1 : Int))) ++ Lv (Prod.fst (n_1, (1 : Int))) (Prod.snd (n_1, (1 : Int)))) + (0 : Nat) ≤ (9223372036854775807 : Nat)) ∧ Holds (ByteArray.size (Lv (Prod.fst (n, (1 : Int))) (Prod.snd (n, (1 : Int))) ++ Lv (Prod.fst (n_1, (1 : Int))) (Prod.snd (n_1, (1 : Int))) ++ { data := #[] }) + ByteArray.size (Lv (Prod.fst (IntKind.wrap IntKind.i64 n_2, (4 : Int))) (Prod.snd (IntKind.wrap IntKind.i64 n_2, (4 : Int)))) ≤ (9223372036854775807 : Nat)) ∧ ∃ (s_1 : ByteArray), Holds ([AV.i IntKind.i64 k, AV.i IntKind.i64 c, AV.i IntKind.u32 r, AV.s d][(3 : Nat)]? = some (AV.s s_1)) ∧ Holds (ByteArray.size (Lv (Prod.fst (n, (1 : Int))) (Prod.snd (n, (1 : Int))) ++ Lv (Prod.fst (n_1, (1 : Int))) (Prod.snd (n_1, (1 : Int))) ++ { data := #[] } ++ Lv (Prod.fst (IntKind.wrap IntKind.i64 n_2, (4 : Int))) (Prod.snd (IntKind.wrap IntKind.i64 n_2, (4 : Int)))) + ByteArray.size s_1 ≤ (9223372036854775807 : Nat)) ∧ R (AV.tu [AV.s (Lv n (1 : Int) ++ Lv n_1 (1 : Int) ++ { data := #[] } ++ Lv (IntKind.wrap IntKind.i64 n_2) (4 : Int) ++ s_1), AV.ic (65 : TypeId) (AV.p (2 : Nat) (0 : Nat))]) [Blk.cells [AV.i IntKind.i64 k, AV.i IntKind.i64 c, AV.i IntKind.u32 r, AV.s d] true, Blk.cells [AV.s (Lv n (1 : Int)), AV.s (Lv n_1 (1 : Int)), AV.s { data := #[(0 : UInt8), (0 : UInt8)] }, AV.s (Lv (IntKind.wrap IntKind.i64 n_2) (4 : Int)), AV.s s] true, Blk.cells [AV.i IntKind.i64 (13 : Int), AV.i IntKind.i64 (0 : Int)] true])) ∧ (Holds ¬good (IntKind.wrap IntKind.i64 n_2, (4 : Int)) → R (AV.tu [AV.s { data := #[] }, AV.ic (65 : TypeId) (AV.p (1 : Nat) (0 : Nat))]) [Blk.cells [AV.i IntKind.i64 k, AV.i IntKind.i64 c, AV.i IntKind.u32 r, AV.s d] true, Blk.cells [AV.i IntKind.i64 (13 : Int), AV.i IntKind.i64 (0 : Int)] true])) ∧ (Holds ¬good (n_1, (1 : Int)) → R (AV.tu [AV.s { data := #[] }, AV.ic (65 : TypeId) (AV.p (1 : Nat) (0 : Nat))]) [Blk.cells [AV.i IntKind.i64 k, AV.i IntKind.i64 c, AV.i IntKind.u32 r, AV.s d] true, Blk.cells [AV.i IntKind.i64 (13 : Int), AV.i IntKind.i64 (0 : Int)] true])) ∧ (Holds ¬good (n, (1 : Int)) → R (AV.tu [AV.s { data := #[] }, AV.ic (65 : TypeId) (AV.p (1 : Nat) (0 : Nat))]) [Blk.cells [AV.i IntKind.i64 k, AV.i IntKind.i64 c, AV.i IntKind.u32 r, AV.s d] true, Blk.cells [AV.i IntKind.i64 (13 : Int), AV.i IntKind.i64 (0 : Int)] true])) := by kernel_rfl
theorem vcb15 (Qv : ByteArray → Int) (Wv : ByteArray → List Int) (p : ByteArray) (k c r : Int) (d : ByteArray) (R : AV → Hp → Prop) : (wpFn P (T15 Qv Wv) noW (headB p k c r d) 0 Go.Proofs.Try.f15 [.s p, .ag [.i .i64 k, .i .i64 c, .i .u32 r, .s d]] [] R) = (∃ (n : Int), Holds ([AV.i IntKind.i64 k, AV.i IntKind.i64 c, AV.i IntKind.u32 r, AV.s d][(0 : Nat)]? = some (AV.i IntKind.i64 n)) ∧ br (decide (n < (0 : Int))) (R (AV.tu [AV.s { data := #[] }, AV.i IntKind.i64 (13 : Int)]) [Blk.cells [AV.i IntKind.i64 k, AV.i IntKind.i64 c, AV.i IntKind.u32 r, AV.s d] true]) (∃ (n : Int), Holds ([AV.i IntKind.i64 k, AV.i IntKind.i64 c, AV.i IntKind.u32 r, AV.s d][(0 : Nat)]? = some (AV.i IntKind.i64 n)) ∧ br (decide (n > (255 : Int))) (R (AV.tu [AV.s { data := #[] }, AV.i IntKind.i64 (13 : Int)]) [Blk.cells [AV.i IntKind.i64 k, AV.i IntKind.i64 c, AV.i IntKind.u32 r, AV.s d] true]) (∃ (n : Int), Holds ([AV.i IntKind.i64 k, AV.i IntKind.i64 c, AV.i IntKind.u32 r, AV.s d][(1 : Nat)]? = some (AV.i IntKind.i64 n)) ∧ br (decide (n < (0 : Int))) (R (AV.tu [AV.s { data := #[] }, AV.i IntKind.i64 (13 : Int)]) [Blk.cells [AV.i IntKind.i64 k, AV.i IntKind.i64 c, AV.i IntKind.u32 r, AV.s d] true]) (∃ (n : Int), Holds ([AV.i IntKind.i64 k, AV.i IntKind.i64 c, AV.i IntKind.u32 r, AV.s d][(1 : Nat)]? = some (AV.i IntKind.i64 n)) ∧ br (decide (n > (255 : Int))) (R (AV.tu [AV.s { data := #[] }, AV.i IntKind.i64 (13 : Int)]) [Blk.cells [AV.i IntKind.i64 k, AV.i IntKind.i64 c, AV.i IntKind.u32 r, AV.s d] true]) (∃ (J : List AV → Prop), (∃ (n : Int), Holds ([AV.i IntKind.i64 k, AV.i IntKind.i64 c, AV.i IntKind.u32 r, AV.s d][(0 : Nat)]? = some (AV.i IntKind.i64 n)) ∧ ∃ (n_1 : Int), Holds ([AV.i IntKind.i64 k, AV.i IntKind.i64 c, AV.i IntKind.u32 r, AV.s d][(1 : Nat)]? = some (AV.i IntKind.i64 n_1)) ∧ ∃ (n_2 : Int), Holds ([AV.i IntKind.i64 k, AV.i IntKind.i64 c, AV.i IntKind.u32 r, AV.s d][(2 : Nat)]? = some (AV.i IntKind.u32 n_2)) ∧ ∃ (n_3 : Int), Holds ([AV.i IntKind.i64 k, AV.i IntKind.i64 c, AV.i IntKind.u32 r, AV.s d][(2 : Nat)]? = some (AV.i IntKind.u32 n_3)) ∧ ∃ (n_4 : Int), Holds ([AV.i IntKind.i64 k, AV.i IntKind.i64 c, AV.i IntKind.u32 r, AV.s d][(2 : Nat)]? = some (AV.i IntKind.u32 n_4)) ∧ ∃ (n_5 : Int), Holds ([AV.i IntKind.i64 k, AV.i IntKind.i64 c, AV.i IntKind.u32 r, AV.s d][(2 : Nat)]? = some (AV.i IntKind.u32 n_5)) ∧ Wk (0 : Nat) { t := [AV.s p, .bad, .bad, AV.p (0 : Nat) (0 : Nat), .bad, .bad, AV.sl (1 : Nat) (0 : Nat) (8 : Nat) (1 : Nat) (some (8 : Nat)), .bad, .bad, .bad, .bad, .bad, .bad, .bad, .bad, .bad, .bad, .bad, .bad, .bad, .bad, .bad, .bad, .bad, .bad, .bad, .bad, .bad, .bad, .bad, .bad, .bad, .bad, .bad, .bad, .bad, .bad, .bad, .bad, .bad, .bad, .bad, .bad, .bad, .bad, .bad, .bad, .bad, .bad, .bad, .bad, .bad, .bad, .bad, .bad, .bad, .bad, .bad, .bad, .bad, .bad, .bad, .bad, .bad, .bad, .bad, .bad, .bad, .bad], h := [Blk.cells [AV.i IntKind.i64 k, AV.i IntKind.i64 c, AV.i IntKind.u32 r, AV.s d] true, Blk.cells [AV.i IntKind.u8 (IntKind.wrap IntKind.u8 n), AV.i IntKind.u8 (IntKind.wrap IntKind.u8 n_1), AV.i IntKind.u8 (0 : Int), AV.i IntKind.u8 (0 : Int), AV.i IntKind.u8 (IntKind.wrap IntKind.u8 (Int.fdiv n_2 ((2 : Int) ^ min (Int.toNat (24 : Int)) (IntKind.bits IntKind.u32)))), AV.i IntKind.u8 (IntKind.wrap IntKind.u8 (Int.fdiv n_3 ((2 : Int) ^ min (Int.toNat (16 : Int)) (IntKind.bits IntKind.u32)))), AV.i IntKind.u8 (IntKind.wrap IntKind.u8 (Int.fdiv n_4 ((2 : Int) ^ min (Int.toNat (8 : Int)) (IntKind.bits IntKind.u32)))), AV.i IntKind.u8 (IntKind.wrap IntKind.u8 n_5)] true] } { t := [AV.s p, .bad, .bad, AV.p (0 : Nat) (0 : Nat), .bad, .bad, AV.sl (1 : Nat) (0 : Nat) (8 : Nat) (1 : Nat) (some (8 : Nat)), .bad, .bad, .bad, .bad, .bad, .bad, .bad, .bad, .bad, .bad, .bad, .bad, .bad, .bad, .bad, .bad, .bad, .bad, .bad, .bad, .bad, .bad, .bad, .bad, .bad, .bad, .bad, .bad, .bad, .bad, .bad, .bad, .bad, .bad, .bad, .bad, .bad, .bad, .bad, .bad, .bad, .bad, .bad, .bad, .bad, .bad, .bad, .bad, .bad, .bad, .bad, .bad, .bad, .bad, .bad, .bad, .bad, .bad, .bad, .bad, .bad, .bad], h := [Blk.cells [AV.i IntKind.i64 k, AV.i IntKind.i64 c, AV.i IntKind.u32 r, AV.s d] true, Blk.cells [AV.i IntKind.u8 (IntKind.wrap IntKind.u8 n), AV.i IntKind.u8 (IntKind.wrap IntKind.u8 n_1), AV.i IntKind.u8 (0 : Int), AV.i IntKind.u8 (0 : Int), AV.i IntKind.u8 (IntKind.wrap IntKind.u8 (Int.fdiv n_2 ((2 : Int) ^ min (Int.toNat (24 : Int)) (IntKind.bits IntKind.u32)))), AV.i IntKind.u8 (IntKind.wrap IntKind.u8 (Int.fdiv n_3 ((2 : Int) ^ min (Int.toNat (16 : Int)) (IntKind.bits IntKind.u32)))), AV.i IntKind.u8 (IntKind.wrap IntKind.u8 (Int.fdiv n_4 ((2 : Int) ^ min (Int.toNat (8 : Int)) (IntKind.bits IntKind.u32)))), AV.i IntKind.u8 (IntKind.wrap IntKind.u8 n_5)] true] } ∧ J [AV.i IntKind.u8 (IntKind.wrap IntKind.u8 n), AV.i IntKind.u8 (IntKind.wrap IntKind.u8 n_1), AV.i IntKind.u8 (0 : Int), AV.i IntKind.u8 (0 : Int), AV.i IntKind.u8 (IntKind.wrap IntKind.u8 (Int.fdiv n_2 ((2 : Int) ^ min (Int.toNat (24 : Int)) (IntKind.bits IntKind.u32)))), AV.i IntKind.u8 (IntKind.wrap IntKind.u8 (Int.fdiv n_3 ((2 : Int) ^ min (Int.toNat (16 : Int)) (IntKind.bits IntKind.u32)))), AV.i IntKind.u8 (IntKind.wrap IntKind.u8 (Int.fdiv n_4 ((2 : Int) ^ min (Int.toNat (8 : Int)) (IntKind.bits IntKind.u32)))), AV.i IntKind.u8 (IntKind.wrap IntKind.u8 n_5)]) ∧ ∀ (a : List AV), J a → ∃ (s : ByteArray), Holds ([AV.i IntKind.i64 k, AV.i IntKind.i64 c, AV.i IntKind.u32 r, AV.s d][(3 : Nat)]? = some (AV.s s)) ∧ br (ByteArray.size s == (0 : Nat)) (Holds ((8 : Nat) ≤ List.length a) ∧ ∃ (l : List Int), Holds (numsOf (List.take (8 : Nat) a) = some l) ∧ Holds (ByteArray.size p + ByteArray.size (textOf l) ≤ (9223372036854775807 : Nat)) ∧ Holds (smallS (p ++ textOf l)) ∧ Holds ((0 : Int) ≤ (2 : Int) ∧ (2 : Int) < (↑(8 : Nat) : Int)) ∧ Holds ((3 : Nat) ≤ List.length a) ∧ Holds ((0 : Int) ≤ (3 : Int) ∧ (3 : Int) < (↑(8 : Nat) : Int)) ∧ Holds ((4 : Nat) ≤ List.length (setAll a (2 : Nat) [AV.i IntKind.u8 (IntKind.wrap IntKind.u8 (IntKind.wrap IntKind.i64 (Int.tdiv (Qv (p ++ textOf l)) (256 : Int))))])) ∧ Holds ((8 : Nat) ≤ List.length (setAll (setAll a (2 : Nat) [AV.i IntKind.u8 (IntKind.wrap IntKind.u8 (IntKind.wrap IntKind.i64 (Int.tdiv (Qv (p ++ textOf l)) (256 : Int))))]) (3 : Nat) [AV.i IntKind.u8 (IntKind.wrap IntKind.u8 (Int.tmod (Qv (p ++ textOf l)) (256 : Int)))])) ∧ ∃ (l_1 : List Int), Holds (numsOf (List.take (8 : Nat) (List.drop (0 : Nat) (setAll (setAll a (2 : Nat) [AV.i IntKind.u8 (IntKind.wrap IntKind.u8 (IntKind.wrap IntKind.i64 (Int.tdiv (Qv (p ++ textOf l)) (256 : Int))))]) (3 : Nat) [AV.i IntKind.u8 (IntKind.wrap IntKind.u8 (Int.tmod (Qv (p ++ textOf l)) (256 : Int)))]))) = some l_1) ∧ R (AV.tu [AV.s (textOf l_1), AV.i IntKind.i64 (0 : Int)]) [Blk.cells [AV.i IntKind.i64 k, AV.i IntKind.i64 c, AV.i IntKind.u32 r, AV.s d] true, Blk.cells (setAll (setAll a (2 : Nat) [AV.i IntKind.u8 (IntKind.wrap IntKind.u8 (IntKind.wrap IntKind.i64 (Int.tdiv (Qv (p ++ textOf l)) (256 : Int))))]) (3 : Nat) [AV.i IntKind.u8 (IntKind.wrap IntKind.u8 (Int.tmod (Qv (p ++ textOf l)) (256 : Int)))]) true]) (Holds (((8 : Nat) + ByteArray.size s) * Prod.snd (nat_lit 0 + (1 : Nat), nat_lit 0 + (1 : Nat)) ≤ (140737488355328 : Nat) ∧ (0 : Nat) + (8 : Nat) * (1 : Nat) ≤ List.length (Prod.fst (a, true))) ∧ br (decide ((8 : Nat) + ByteArray.size s ≤ (8 : Nat))) (Holds ((0 : Nat) + ((8 : Nat) + ByteArray.size s) * (1 : Nat) ≤ List.length (Prod.fst (a, true)) ∧ List.all (bytesAV s) AV.one = true) ∧ Holds ((0 : Nat) + ((8 : Nat) + ByteArray.size s) ≤ List.length (setAll a (8 : Nat) (bytesAV s))) ∧ ∃ (l : List Int), Holds (numsOf (List.take ((8 : Nat) + ByteArray.size s) (List.drop (0 : Nat) (setAll a (8 : Nat) (bytesAV s)))) = some l) ∧ Holds (ByteArray.size p + ByteArray.size (textOf l) ≤ (9223372036854775807 : Nat)) ∧ Holds (smallS (p ++ textOf l)) ∧ Holds ((0 : Int) ≤ (2 : Int) ∧ (2 : Int) < (↑((8 : Nat) + ByteArray.size s) : Int)) ∧ Holds ((3 : Nat) ≤ List.length (setAll a (8 : Nat) (bytesAV s))) ∧ Holds ((0 : Int) ≤ (3 : Int) ∧ (3 : Int) < (↑((8 : Nat) + ByteArray.size s) : Int)) ∧ Holds ((4 : Nat) ≤ List.length (setAll (setAll a (8 : Nat) (bytesAV s)) (2 : Nat) [AV.i IntKind.u8 (IntKind.wrap IntKind.u8 (IntKind.wrap IntKind.i64 (Int.tdiv (Qv (p ++ textOf l)) (256 : Int))))])) ∧ Holds ((0 : Nat) + ((8 : Nat) + ByteArray.size s) ≤ List.length (setAll (setAll (setAll a (8 : Nat) (bytesAV s)) (2 : Nat) [AV.i IntKind.u8 (IntKind.wrap IntKind.u8 (IntKind.wrap IntKind.i64 (Int.tdiv (Qv (p ++ textOf l)) (256 : Int))))]) (3 : Nat) [AV.i IntKind.u8 (IntKind.wrap IntKind.u8 (Int.tmod (Qv (p ++ textOf l)) (256 : Int)))])) ∧ ∃ (l_1 : List Int), Holds (numsOf (List.take ((8 : Nat) + ByteArray.size s) (List.drop (0 : Nat) (setAll (setAll (setAll a (8 : Nat) (bytesAV s)) (2 : Nat) [AV.i IntKind.u8 (IntKind.wrap IntKind.u8 (IntKind.wrap IntKind.i64 (Int.tdiv (Qv (p ++ textOf l)) (256 : Int))))]) (3 : Nat) [AV.i IntKind.u8 (IntKind.wrap IntKind.u8 (Int.tmod (Qv (p ++ textOf l)) (256 : Int)))]))) = some l_1) ∧ R (AV.tu [AV.s (textOf l_1), AV.i IntKind.i64 (0 : Int)]) [Blk.cells [AV.i IntKind.i64 k, AV.i IntKind.i64 c, AV.i IntKind.u32 r, AV.s d] true, Blk.cells (setAll (setAll (setAll a (8 : Nat) (bytesAV s)) (2 : Nat) [AV.i IntKind.u8 (IntKind.wrap IntKind.u8 (IntKind.wrap IntKind.i64 (Int.tdiv (Qv (p ++ textOf l)) (256 : Int))))]) (3 : Nat) [AV.i IntKind.u8 (IntKind.wrap IntKind.u8 (Int.tmod (Qv (p ++ textOf l)) (256 : Int)))]) true]) (Holds ((0 : Nat) + ((8 : Nat) + ByteArray.size s) ≤ List.length (List.take (8 : Nat) a ++ bytesAV s)) ∧ ∃ (l : List Int), Holds (numsOf (List.take ((8 : Nat) + ByteArray.size s) (List.drop (0 : Nat) (List.take (8 : Nat) a ++ bytesAV s))) = some l) ∧ Holds (ByteArray.size p + ByteArray.size (textOf l) ≤ (9223372036854775807 : Nat)) ∧ Holds (smallS (p ++ textOf l)) ∧ Holds ((0 : Int) ≤ (2 : Int) ∧ (2 : Int) < (↑((8 : Nat) + ByteArray.size s) : Int)) ∧ Holds ((3 : Nat) ≤ List.length (List.take (8 : Nat) a ++ bytesAV s)) ∧ Holds ((0 : Int) ≤ (3 : Int) ∧ (3 : Int) < (↑((8 : Nat) + ByteArray.size s) : Int)) ∧ Holds ((4 : Nat) ≤ List.length (setAll (List.take (8 : Nat) a ++ bytesAV s) (2 : Nat) [AV.i IntKind.u8 (IntKind.wrap IntKind.u8 (IntKind.wrap IntKind.i64 (Int.tdiv (Qv (p ++ textOf l)) (256 : Int))))])) ∧ Holds ((0 : Nat) + ((8 : Nat) + ByteArray.size s) ≤ List.length (setAll (setAll (List.take (8 : Nat) a ++ bytesAV s) (2 : Nat) [AV.i IntKind.u8 (IntKind.wrap IntKind.u8 (IntKind.wrap IntKind.i64 (Int.tdiv (Qv (p ++ textOf l)) (256 : Int))))]) (3 : Nat) [AV.i IntKind.u8 (IntKind.wrap IntKind.u8 (Int.tmod (Qv (p ++ textOf l)) (256 : Int)))])) ∧ ∃ (l_1 : List Int), Holds (numsOf (List.take ((8 : Nat) + ByteArray.size s) (List.drop (0 : Nat) (setAll (setAll (List.take (8 : Nat) a ++ bytesAV s) (2 : Nat) [AV.i IntKind.u8 (IntKind.wrap IntKind.u8 (IntKind.wrap IntKind.i64 (Int.tdiv (Qv (p ++ textOf l)) (256 : Int))))]) (3 : Nat) [AV.i IntKind.u8 (IntKind.wrap IntKind.u8 (Int.tmod (Qv (p ++ textOf l)) (256 : Int)))]))) = some l_1) ∧ R (AV.tu [AV.s (textOf l_1), AV.i IntKind.i64 (0 : Int)]) [Blk.cells [AV.i IntKind.i64 k, AV.i IntKind.i64 c, AV.i IntKind.u32 r, AV.s d] true, Blk.cells a true, Blk.cells (setAll (setAll (List.take (8 : Nat) a ++ bytesAV s) (2 : Nat) [AV.i IntKind.u8 (IntKind.wrap IntKind.u8 (IntKind.wrap IntKind.i64 (Int.tdiv (Qv (p ++ textOf l)) (256 : Int))))]) (3 : Nat) [AV.i IntKind.u8 (IntKind.wrap IntKind.u8 (Int.tmod (Qv (p ++ textOf l)) (256 : Int)))]) true]))))))) := by kernel_rfl
theorem vc16 (Rv : List ByteArray → Bool) (V : ByteArray → Int) (s : ByteArray) (R : AV → Hp → Prop) : (wpFn P (T16 Rv V) noW noL 0 Go.Proofs.Try.f16 [.s s] [] R) = (br (decide ((↑(ByteArray.size s) : Int) < (8 : Int))) (Holds ((4 : Nat) ≤ List.length [AV.i IntKind.i64 (0 : Int), AV.i IntKind.i64 (0 : Int), AV.i IntKind.u32 (0 : Int), AV.s { data := #[] }]) ∧ R (AV.tu [AV.ag [AV.i IntKind.i64 (0 : Int), AV.i IntKind.i64 (0 : Int), AV.i IntKind.u32 (0 : Int), AV.s { data := #[] }], AV.ic (65 : Nat) (AV.p (1 : Nat) (0 : Nat))]) [Blk.cells [AV.i IntKind.i64 (0 : Int), AV.i IntKind.i64 (0 : Int), AV.i IntKind.u32 (0 : Int), AV.s { data := #[] }] true, Blk.cells [AV.i IntKind.i64 (7 : Int), AV.i IntKind.i64 (0 : Int)] true]) (∃ (l : List ByteArray), Holds ([AV.s s] = List.map AV.s l) ∧ Holds (List.length l = (1 : Nat)) ∧ Holds (okL l) ∧ br (!Rv l) (Holds ((4 : Nat) ≤ List.length [AV.i IntKind.i64 (0 : Int), AV.i IntKind.i64 (0 : Int), AV.i IntKind.u32 (0 : Int), AV.s { data := #[] }]) ∧ R (AV.tu [AV.ag [AV.i IntKind.i64 (0 : Int), AV.i IntKind.i64 (0 : Int), AV.i IntKind.u32 (0 : Int), AV.s { data := #[] }], AV.ic (65 : Nat) (AV.p (2 : Nat) (0 : Nat))]) [Blk.cells [AV.i IntKind.i64 (0 : Int), AV.i IntKind.i64 (0 : Int), AV.i IntKind.u32 (0 : Int), AV.s { data := #[] }] true, Blk.cells [AV.s s] true, Blk.cells [AV.i IntKind.i64 (9 : Int), AV.i IntKind.i64 (0 : Int)] true]) (Holds ((0 : Int) ≤ (4 : Int) ∧ (4 : Int) ≤ (↑(ByteArray.size s) : Int)) ∧ Holds ((0 : Int) = (0 : Int)) ∧ Holds ((4 : Nat) ≤ ByteArray.size (ByteArray.extract s (Int.toNat (4 : Int)) (ByteArray.size s)) ∧ ByteArray.size (ByteArray.extract s (Int.toNat (4 : Int)) (ByteArray.size s)) ≤ (1073741824 : Nat)) ∧ Holds ((0 : Int) ≤ (0 : Int)) ∧ ∃ (b : UInt8), Holds (s[(0 : Nat)]? = some b) ∧ Holds ((0 : Int) ≤ (1 : Int)) ∧ ∃ (b_1 : UInt8), Holds (s[(1 : Nat)]? = some b_1) ∧ Holds ((0 : Int) ≤ (8 : Int) ∧ (8 : Int) ≤ (↑(ByteArray.size s) : Int)) ∧ Holds ((4 : Nat) ≤ List.length [AV.i IntKind.i64 (0 : Int), AV.i IntKind.i64 (0 : Int), AV.i IntKind.u32 (0 : Int), AV.s { data := #[] }]) ∧ R (AV.tu [AV.ag [AV.i IntKind.i64 (IntKind.wrap IntKind.i64 (↑(UInt8.toNat b) : Int)), AV.i IntKind.i64 (IntKind.wrap IntKind.i64 (↑(UInt8.toNat b_1) : Int)), AV.i IntKind.u32 (IntKind.wrap IntKind.u32 (V (ByteArray.extract s (Int.toNat (4 : Int)) (ByteArray.size s)))), AV.s (ByteArray.extract s (Int.toNat (8 : Int)) (ByteArray.size s))], AV.ni]) [Blk.cells [AV.i IntKind.i64 (IntKind.wrap IntKind.i64 (↑(UInt8.toNat b) : Int)), AV.i IntKind.i64 (IntKind.wrap IntKind.i64 (↑(UInt8.toNat b_1) : Int)), AV.i IntKind.u32 (IntKind.wrap IntKind.u32 (V (ByteArray.extract s (Int.toNat (4 : Int)) (ByteArray.size s)))), AV.s (ByteArray.extract s (Int.toNat (8 : Int)) (ByteArray.size s))] true, Blk.cells [AV.s s] true, Blk.cells [AV.s (ByteArray.extract s (Int.toNat (4 : Int)) (ByteArray.size s)), AV.i IntKind.i64 (4 : Int), AV.pn] true]))) := by kernel_rfl
theorem vcp17 (Qv : ByteArray → Int) (Wv : ByteArray → List Int) (p s : ByteArray) (R : AV → Hp → Prop) : (wpFn P (T15 Qv Wv) noW noL 0 Go.Proofs.Try.f17 [.s p, .s s] [] R) = (br (decide ((↑(ByteArray.size s) : Int) < (8 : Int))) (Holds ((4 : Nat) ≤ List.length [AV.i IntKind.i64 (0 : Int), AV.i IntKind.i64 (0 : Int), AV.i IntKind.u32 (0 : Int), AV.s { data := #[] }]) ∧ R (AV.tu [AV.ag [AV.i IntKind.i64 (0 : Int), AV.i IntKind.i64 (0 : Int), AV.i IntKind.u32 (0 : Int), AV.s { data := #[] }], AV.i IntKind.i64 (7 : Int)]) [Blk.cells [AV.i IntKind.i64 (0 : Int), AV.i IntKind.i64 (0 : Int), AV.i IntKind.u32 (0 : Int), AV.s { data := #[] }] true]) (Holds (ByteArray.size p + ByteArray.size s ≤ (9223372036854775807 : Nat)) ∧ Holds (smallS (p ++ s)) ∧ br (Qv (p ++ s) != (0 : Int)) (Holds ((4 : Nat) ≤ List.length [AV.i IntKind.i64 (0 : Int), AV.i IntKind.i64 (0 : Int), AV.i IntKind.u32 (0 : Int), AV.s { data := #[] }]) ∧ R (AV.tu [AV.ag [AV.i IntKind.i64 (0 : Int), AV.i IntKind.i64 (0 : Int), AV.i IntKind.u32 (0 : Int), AV.s { data := #[] }], AV.i IntKind.i64 (9 : Int)]) [Blk.cells [AV.i IntKind.i64 (0 : Int), AV.i IntKind.i64 (0 : Int), AV.i IntKind.u32 (0 : Int), AV.s { data := #[] }] true]) (Holds ((0 : Int) ≤ (8 : Int) ∧ (8 : Int) ≤ (↑(ByteArray.size s) : Int)) ∧ Holds (ByteArray.size (ByteArray.extract s (0 : Nat) (Int.toNat (8 : Int))) ≤ (1073741824 : Nat)) ∧ (Holds (Wv (ByteArray.extract s (0 : Nat) (Int.toNat (8 : Int))) = []) → False) ∧ (Holds (Wv (ByteArray.extract s (0 : Nat) (Int.toNat (8 : Int))) ≠ []) → Holds ((0 : Int) ≤ (0 : Int) ∧ (0 : Int) < (↑(List.length (Wv (ByteArray.extract s (0 : Nat) (Int.toNat (8 : Int))))) : Int)) ∧ ∃ (n : Int), Holds ((List.map (AV.i IntKind.i64) (Wv (ByteArray.extract s (0 : Nat) (Int.toNat (8 : Int)))))[(0 : Nat)]? = some (AV.i IntKind.i64 n)) ∧ Holds ((0 : Int) ≤ (0 : Int) ∧ (0 : Int) < (↑(List.length (Wv (ByteArray.extract s (0 : Nat) (Int.toNat (8 : Int))))) : Int)) ∧ ∃ (n_1 : Int), Holds ((List.map (AV.i IntKind.i64) (Wv (ByteArray.extract s (0 : Nat) (Int.toNat (8 : Int)))))[(0 : Nat)]? = some (AV.i IntKind.i64 n_1)) ∧ Holds ((0 : Int) ≤ (2 : Int) ∧ (2 : Int) < (↑(List.length (Wv (ByteArray.extract s (0 : Nat) (Int.toNat (8 : Int))))) : Int)) ∧ ∃ (n_2 : Int), Holds ((List.map (AV.i IntKind.i64) (Wv (ByteArray.extract s (0 : Nat) (Int.toNat (8 : Int)))))[(2 : Nat)]? = some (AV.i IntKind.i64 n_2)) ∧ Holds ((0 : Int) ≤ (3 : Int) ∧ (3 : Int) < (↑(List.length (Wv (ByteArray.extract s (0 : Nat) (Int.toNat (8 : Int))))) : Int)) ∧ ∃ (n_3 : Int), Holds ((List.map (AV.i IntKind.i64) (Wv (ByteArray.extract s (0 : Nat) (Int.toNat (8 : Int)))))[(3 : Nat)]? = some (AV.i IntKind.i64 n_3)) ∧ Holds ((0 : Int) ≤ (8 : Int) ∧ (8 : Int) ≤ (↑(ByteArray.size s) : Int)) ∧ Holds ((4 : Nat) ≤ List.length [AV.i IntKind.i64 (0 : Int), AV.i IntKind.i64 (0 : Int), AV.i IntKind.u32 (0 : Int), AV.s { data := #[] }]) ∧ R (AV.tu [AV.ag [AV.i IntKind.i64 (IntKind.wrap IntKind.i64 (Int.tdiv n (256 : Int))), AV.i IntKind.i64 (Int.tmod n_1 (256 : Int)), AV.i IntKind.u32 (IntKind.wrap IntKind.u32 (IntKind.wrap IntKind.u32 (IntKind.wrap IntKind.u32 n_2 * (65536 : Int)) + IntKind.wrap IntKind.u32 n_3)), AV.s (ByteArray.extract s (Int.toNat (8 : Int)) (ByteArray.size s))], AV.i IntKind.i64 (0 : Int)]) [Blk.cells [AV.i IntKind.i64 (IntKind.wrap IntKind.i64 (Int.tdiv n (256 : Int))), AV.i IntKind.i64 (Int.tmod n_1 (256 : Int)), AV.i IntKind.u32 (IntKind.wrap IntKind.u32 (IntKind.wrap IntKind.u32 (IntKind.wrap IntKind.u32 n_2 * (65536 : Int)) + IntKind.wrap IntKind.u32 n_3)), AV.s (ByteArray.extract s (Int.toNat (8 : Int)) (ByteArray.size s))] true, Blk.cells (List.map (AV.i IntKind.i64) (Wv (ByteArray.extract s (0 : Nat) (Int.toNat (8 : Int))))) true])))) := by kernel_rfl
theorem vc20 (good : Int × Int → Prop) (Lv : Int → Int → ByteArray) (Ov : List ByteArray → Int) (k c r : Int) (d p : ByteArray) (R : AV → Hp → Prop) : (wpFn P (T14 good Lv Ov) noW noL 0 Go.Proofs.Try.f20 [.ag [.i .i64 k, .i .i64 c, .i .u32 r, .s d], .s p] [] R) = (∃ (n : Int), Holds ([AV.i IntKind.i64 k, AV.i IntKind.i64 c, AV.i IntKind.u32 r, AV.s d][(0 : Nat)]? = some (AV.i IntKind.i64 n)) ∧ Holds (okBigN (n, (1 : Int))) ∧ (Holds (good (n, (1 : Int))) → ∃ (n_1 : Int), Holds ([AV.i IntKind.i64 k, AV.i IntKind.i64 c, AV.i IntKind.u32 r, AV.s d][(1 : Nat)]? = some (AV.i IntKind.i64 n_1)) ∧ Holds (okBigN (n_1, (1 : Int))) ∧ (Holds (good (n_1, (1 : Int))) → ∃ (n_2 : Int), Holds ([AV.i IntKind.i64 k, AV.i IntKind.i64 c, AV.i IntKind.u32 r, AV.s d][(2 : Nat)]? = some (AV.i IntKind.u32 n_2)) ∧ Holds (okBigN (IntKind.wrap IntKind.i64 n_2, (4 : Int))) ∧ (Holds (good (IntKind.wrap IntKind.i64 n_2, (4 : Int))) → ∃ (s : ByteArray), Holds ([AV.i IntKind.i64 k, AV.i IntKind.i64 c, AV.i IntKind.u32 r, AV.s d][(3 : Nat)]? = some (AV.s s)) ∧ ∃ (l : List ByteArray), Holds ([AV.s p, AV.s (Lv n (1 : Int)), AV.s (Lv n_1 (1 : Int)), AV.s { data := #[(0 : UInt8), (0 : UInt8)] }, AV.s (Lv (IntKind.wrap IntKind.i64 n_2) (4 : Int)), AV.s s] = List.map AV.s l) ∧ Holds (List.length l = (6 : Nat)) ∧ Holds (okL l) ∧ Holds (okBigN (Ov l, (2 : Int))) ∧ (Holds (good (Ov l, (2 : Int))) → Holds (ByteArray.size (Lv (Prod.fst (n, (1 : Int))) (Prod.snd (n, (1 : Int)))) + ByteArray.size (Lv (Prod.fst (n_1, (1 : Int))) (Prod.snd (n_1, (1 : Int)))) ≤ (9223372036854775807 : Nat)) ∧ Holds (ByteArray.size (Lv (Prod.fst (n, (1 : Int))) (Prod.snd (n, (1 : Int))) ++ Lv (Prod.fst (n_1, (1 : Int))) (Prod.snd (n_1, (1 : Int)))) + ByteArray.size (Lv (Prod.fst (Ov l, (2 : Int))) (Prod.snd (Ov l, (2 : Int)))) ≤ (9223372036854775807 : Nat)) ∧ Holds (ByteArray.size (Lv (Prod.fst (n, (1 : Int))) (Prod.snd (n, (1 : Int))) ++ Lv (Prod.fst (n_1, (1 : Int))) (Prod.snd (n_1, (1 : Int))) ++ Lv (Prod.fst (Ov l, (2 : Int))) (Prod.snd (Ov l, (2 : Int)))) + ByteArray.size (Lv (Prod.fst (IntKind.wrap IntKind.i64 n_2, (4 : Int))) (Prod.snd (IntKind.wrap IntKind.i64 n_2, (4 : Int)))) ≤ (9223372036854775807 : Nat)) ∧ ∃ (s_1 : ByteArray), Holds ([AV.i IntKind.i64 k, AV.i IntKind.i64 c, AV.i IntKind.u32 r, AV.s d][(3 : Nat)]? = some (AV.s s_1)) ∧ Holds (ByteArray.size (Lv (Prod.fst (n, (1 : Int))) (Prod.snd (n, (1 : Int))) ++ Lv (Prod.fst (n_1, (1 : Int))) (Prod.snd (n_1, (1 : Int))) ++ Lv (Prod.fst (Ov l, (2 : Int))) (Prod.snd (Ov l, (2 : Int))) ++ Lv (Prod.fst (IntKind.wrap IntKind.i64 n_2, (4 : Int))) (Prod.snd (IntKind.wrap IntKind.i64 n_2, (4 : Int)))) + ByteArray.size s_1 ≤ (9223372036854775807 : Nat)) ∧ R (AV.tu [AV.s (Lv n (1 : Int) ++ Lv n_1 (1 : Int) ++ Lv (Ov l) (2 : Int) ++ Lv (IntKind.wrap IntKind.i64 n_2) (4 : Int) ++ s_1), AV.ni]) [Blk.cells [AV.i IntKind.i64 k, AV.i IntKind.i64 c, AV.i IntKind.u32 r, AV.s d] true, Blk.cells [AV.s p, AV.s (Lv n (1 : Int)), AV.s (Lv n_1 (1 : Int)), AV.s { data := #[(0 : UInt8), (0 : UInt8)] }, AV.s (Lv (IntKind.wrap IntKind.i64 n_2) (4 : Int)), AV.s s] true]) ∧ (Holds ¬good (Ov l, (2 : Int)) → Holds (ByteArray.size (Lv (Prod.fst (n, (1 : Int))) (Prod.snd (n, (1 : Int)))) + ByteArray.size (Lv (Prod.fst (n_1, (1 : Int))) (Prod.snd (n_1, (1 : Int)))) ≤ (9223372036854775807 : Nat)) ∧ Holds (ByteArray.size (Lv (Prod.fst (n, (1 : Int))) (Prod.snd (n, (1 : Int))) ++ Lv (Prod.fst (n_1, (1 : Int))) (Prod.snd (n_1, (1 : Int)))) + (0 : Nat) ≤ (9223372036854775807 : Nat)) ∧ Holds (ByteArray.size (Lv (Prod.fst (n, (1 : Int))) (Prod.snd (n, (1 : Int))) ++ Lv (Prod.fst (n_1, (1 : Int))) (Prod.snd (n_1, (1 : Int))) ++ { data := #[] }) + ByteArray.size (Lv (Prod.fst (IntKind.wrap IntKind.i64 n_2, (4 : Int))) (Prod.snd (IntKind.wrap IntKind.i64 n_2, (4 : Int)))) ≤ (9223372036854775807 : Nat)) ∧ ∃ (s_1 : ByteArray), Holds ([AV.i IntKind.i64 k, AV.i IntKind.i64 c, AV.i IntKind.u32 r, AV.s d][(3 : Nat)]? = some (AV.s s_1)) ∧ Holds (ByteArray.size (Lv (Prod.fst (n, (1 : Int))) (Prod.snd (n, (1 : Int))) ++ Lv (Prod.fst (n_1, (1 : Int))) (Prod.snd (n_1, (1 : Int))) ++ { data := #[] } ++ Lv (Prod.fst (IntKind.wrap IntKind.i64 n_2, (4 : Int))) (Prod.snd (IntKind.wrap IntKind.i64 n_2, (4 : Int)))) + ByteArray.size s_1 ≤ (9223372036854775807 : Nat)) ∧ R (AV.tu [AV.s (Lv n (1 : Int) ++ Lv n_1 (1 : Int) ++ { data := #[] } ++ Lv (IntKind.wrap IntKind.i64 n_2) (4 : Int) ++ s_1), AV.ic (65 : TypeId) (AV.p (2 : Nat) (0 : Nat))]) [Blk.cells [AV.i IntKind.i64 k, AV.i IntKind.i64 c, AV.i IntKind.u32 r, AV.s d] true, Blk.cells [AV.s p, AV.s (Lv n (1 : Int)), AV.s (Lv n_1 (1 : Int)), AV.s { data := #[(0 : UInt8), (0 : UInt8)] }, AV.s (Lv (IntKind.wrap IntKind.i64 n_2) (4 : Int)), AV.s s] true, Blk.cells [AV.i IntKind.i64 (13 : Int), AV.i IntKind.i64 (0 : Int)] true])) ∧ (Holds ¬good (IntKind.wrap IntKind.i64 n_2, (4 : Int)) → R (AV.tu [AV.s { data := #[] }, AV.ic (65 : TypeId) (AV.p (1 : Nat) (0 : Nat))]) [Blk.cells [AV.i IntKind.i64 k, AV.i IntKind.i64 c, AV.i IntKind.u32 r, AV.s d] true, Blk.cells [AV.i IntKind.i64 (13 : Int), AV.i IntKind.i64 (0 : Int)] true])) ∧ (Holds ¬good (n_1, (1 : Int)) → R (AV.tu [AV.s { data := #[] }, AV.ic (65 : TypeId) (AV.p (1 : Nat) (0 : Nat))]) [Blk.cells [AV.i IntKind.i64 k, AV.i IntKind.i64 c, AV.i IntKind.u32 r, AV.s d] true, Blk.cells [AV.i IntKind.i64 (13 : Int), AV.i IntKind.i64 (0 : Int)] true])) ∧ (Holds ¬good (n, (1 : Int)) → R (AV.tu [AV.s { data := #[] }, AV.ic (65 : TypeId) (AV.p (1 : Nat) (0 : Nat))]) [Blk.cells [AV.i IntKind.i64 k, AV.i IntKind.i64 c, AV.i IntKind.u32 r, AV.s d] true, Blk.cells [AV.i IntKind.i64 (13 : Int), AV.i IntKind.i64 (0 : Int)] true])) := by kernel_rfl
theorem vcb21 (Qv : ByteArray → Int) (Wv : ByteArray → List Int) (p : ByteArray) (k c r : Int) (d : ByteArray) (R : AV → Hp → Prop) : (wpFn P (T15 Qv Wv) noW (headB p k c r d) 0 Go.Proofs.Try.f21 [.s p, .ag [.i .i64 k, .i .i64 c, .i .u32 r, .s d]] [] R) = (∃ (n : Int), Holds ([AV.i IntKind.i64 k, AV.i IntKind.i64 c, AV.i IntKind.u32 r, AV.s d][(0 : Nat)]? = some (AV.i IntKind.i64 n)) ∧ br (decide (n < (0 : Int))) (R (AV.tu [AV.s { data := #[] }, AV.i IntKind.i64 (13 : Int)]) [Blk.cells [AV.i IntKind.i64 k, AV.i IntKind.i64 c, AV.i IntKind.u32 r, AV.s d] true]) (∃ (n : Int), Holds ([AV.i IntKind.i64 k, AV.i IntKind.i64 c, AV.i IntKind.u32 r, AV.s d][(0 : Nat)]? = some (AV.i IntKind.i64 n)) ∧ br (decide (n > (255 : Int))) (R (AV.tu [AV.s { data := #[] }, AV.i IntKind.i64 (13 : Int)]) [Blk.cells [AV.i IntKind.i64 k, AV.i IntKind.i64 c, AV.i IntKind.u32 r, AV.s d] true]) (∃ (n : Int), Holds ([AV.i IntKind.i64 k, AV.i IntKind.i64 c, AV.i IntKind.u32 r, AV.s d][(1 : Nat)]? = some (AV.i IntKind.i64 n)) ∧ br (decide (n < (0 : Int))) (R (AV.tu [AV.s { data := #[] }, AV.i IntKind.i64 (13 : Int)]) [Blk.cells [AV.i IntKind.i64 k, AV.i IntKind.i64 c, AV.i IntKind.u32 r, AV.s d] true]) (∃ (n : Int), Holds ([AV.i IntKind.i64 k, AV.i IntKind.i64 c, AV.i IntKind.u32 r, AV.s d][(1 : Nat)]? = some (AV.i IntKind.i64 n)) ∧ br (decide (n > (255 : Int))) (R (AV.tu [AV.s { data := #[] }, AV.i IntKind.i64 (13 : Int)]) [Blk.cells [AV.i IntKind.i64 k, AV.i IntKind.i64 c, AV.i IntKind.u32 r, AV.s d] true]) (∃ (J : List AV → Prop), (∃ (n : Int), Holds ([AV.i IntKind.i64 k, AV.i IntKind.i64 c, AV.i IntKind.u32 r, AV.s d][(0 : Nat)]? = some (AV.i IntKind.i64 n)) ∧ ∃ (n_1 : Int), Holds ([AV.i IntKind.i64 k, AV.i IntKind.i64 c, AV.i IntKind.u32 r, AV.s d][(1 : Nat)]? = some (AV.i IntKind.i64 n_1)) ∧ ∃ (n_2 : Int), Holds ([AV.i IntKind.i64 k, AV.i IntKind.i64 c, AV.i IntKind.u32 r, AV.s d][(2 : Nat)]? = some (AV.i IntKind.u32 n_2)) ∧ ∃ (n_3 : Int), Holds ([AV.i IntKind.i64 k, AV.i IntKind.i64 c, AV.i IntKind.u32 r, AV.s d][(2 : Nat)]? = some (AV.i IntKind.u32 n_3)) ∧ ∃ (n_4 : Int), Holds ([AV.i IntKind.i64 k, AV.i IntKind.i64 c, AV.i IntKind.u32 r, AV.s d][(2 : Nat)]? = some (AV.i IntKind.u32 n_4)) ∧ ∃ (n_5 : Int), Holds ([AV.i IntKind.i64 k, AV.i IntKind.i64 c, AV.i IntKind.u32 r, AV.s d][(2 : Nat)]? = some (AV.i IntKind.u32 n_5)) ∧ Wk (0 : Nat) { t := [AV.s p, .bad, .bad, AV.p (0 : Nat) (0 : Nat), .bad, .bad, AV.sl (1 : Nat) (0 : Nat) (8 : Nat) (1 : Nat) (some (8 : Nat)), .bad, .bad, .bad, .bad, .bad, .bad, .bad, .bad, .bad, .bad, .bad, .bad, .bad, .bad, .bad, .bad, .bad, .bad, .bad, .bad, .bad, .bad, .bad, .bad, .bad, .bad, .bad, .bad, .bad, .bad, .bad, .bad, .bad, .bad, .bad, .bad, .bad, .bad, .bad, .bad, .bad, .bad, .bad, .bad, .bad, .bad, .bad, .bad, .bad, .bad, .bad, .bad, .bad, .bad, .bad, .bad, .bad, .bad, .bad, .bad, .bad, .bad], h := [Blk.cells [AV.i IntKind.i64 k, AV.i IntKind.i64 c, AV.i IntKind.u32 r, AV.s d] true, Blk.cells [AV.i IntKind.u8 (IntKind.wrap IntKind.u8 n), AV.i IntKind.u8 (IntKind.wrap IntKind.u8 n_1), AV.i IntKind.u8 (0 : Int), AV.i IntKind.u8 (0 : Int), AV.i IntKind.u8 (IntKind.wrap IntKind.u8 (Int.fdiv n_2 ((2 : Int) ^ min (Int.toNat (24 : Int)) (IntKind.bits IntKind.u32)))), AV.i IntKind.u8 (IntKind.wrap IntKind.u8 (Int.fdiv n_3 ((2 : Int) ^ min (Int.toNat (16 : Int)) (IntKind.bits IntKind.u32)))), AV.i IntKind.u8 (IntKind.wrap IntKind.u8 (Int.fdiv n_4 ((2 : Int) ^ min (Int.toNat (8 : Int)) (IntKind.bits IntKind.u32)))), AV.i IntKind.u8 (IntKind.wrap IntKind.u8 n_5)] true] } { t := [AV.s p, .bad, .bad, AV.p (0 : Nat) (0 : Nat), .bad, .bad, AV.sl (1 : Nat) (0 : Nat) (8 : Nat) (1 : Nat) (some (8 : Nat)), .bad, .bad, .bad, .bad, .bad, .bad, .bad, .bad, .bad, .bad, .bad, .bad, .bad, .bad, .bad, .bad, .bad, .bad, .bad, .bad, .bad, .bad, .bad, .bad, .bad, .bad, .bad, .bad, .bad, .bad, .bad, .bad, .bad, .bad, .bad, .bad, .bad, .bad, .bad, .bad, .bad, .bad, .bad, .bad, .bad, .bad, .bad, .bad, .bad, .bad, .bad, .bad, .bad, .bad, .bad, .bad, .bad, .bad, .bad, .bad, .bad, .bad], h := [Blk.cells [AV.i IntKind.i64 k, AV.i IntKind.i64 c, AV.i IntKind.u32 r, AV.s d] true, Blk.cells [AV.i IntKind.u8 (IntKind.wrap IntKind.u8 n), AV.i IntKind.u8 (IntKind.wrap IntKind.u8 n_1), AV.i IntKind.u8 (0 : Int), AV.i IntKind.u8 (0 : Int), AV.i IntKind.u8 (IntKind.wrap IntKind.u8 (Int.fdiv n_2 ((2 : Int) ^ min (Int.toNat (24 : Int)) (IntKind.bits IntKind.u32)))), AV.i IntKind.u8 (IntKind.wrap IntKind.u8 (Int.fdiv n_3 ((2 : Int) ^ min (Int.toNat (16 : Int)) (IntKind.bits IntKind.u32)))), AV.i IntKind.u8 (IntKind.wrap IntKind.u8 (Int.fdiv n_4 ((2 : Int) ^ min (Int.toNat (8 : Int)) (IntKind.bits IntKind.u32)))), AV.i IntKind.u8 (IntKind.wrap IntKind.u8 n_5)] true] } ∧ J [AV.i IntKind.u8 (IntKind.wrap IntKind.u8 n), AV.i IntKind.u8 (IntKind.wrap IntKind.u8 n_1), AV.i IntKind.u8 (0 : Int), AV.i IntKind.u8 (0 : Int), AV.i IntKind.u8 (IntKind.wrap IntKind.u8 (Int.fdiv n_2 ((2 : Int) ^ min (Int.toNat (24 : Int)) (IntKind.bits IntKind.u32)))), AV.i IntKind.u8 (IntKind.wrap IntKind.u8 (Int.fdiv n_3 ((2 : Int) ^ min (Int.toNat (16 : Int)) (IntKind.bits IntKind.u32)))), AV.i IntKind.u8 (IntKind.wrap IntKind.u8 (Int.fdiv n_4 ((2 : Int) ^ min (Int.toNat (8 : Int)) (IntKind.bits IntKind.u32)))), AV.i IntKind.u8 (IntKind.wrap IntKind.u8 n_5)]) ∧ ∀ (a : List AV), J a → ∃ (s : ByteArray), Holds ([AV.i IntKind.i64 k, AV.i IntKind.i64 c, AV.i IntKind.u32 r, AV.s d][(3 : Nat)]? = some (AV.s s)) ∧ br (ByteArray.size s == (0 : Nat)) (Holds ((8 : Nat) ≤ List.length a) ∧ ∃ (l : List Int), Holds (numsOf (List.take (8 : Nat) a) = some l) ∧ Holds (ByteArray.size p + ByteArray.size (textOf l) ≤ (9223372036854775807 : Nat)) ∧ Holds (smallS (p ++ textOf l)) ∧ Holds ((0 : Int) ≤ (2 : Int) ∧ (2 : Int) < (↑(8 : Nat) : Int)) ∧ Holds ((3 : Nat) ≤ List.length a) ∧ Holds ((0 : Int) ≤ (3 : Int) ∧ (3 : Int) < (↑(8 : Nat) : Int)) ∧ Holds ((4 : Nat) ≤ List.length (setAll a (2 : Nat) [AV.i IntKind.u8 (IntKind.wrap IntKind.u8 (IntKind.wrap IntKind.i64 (Int.tdiv (Qv (p ++ textOf l)) (256 : Int))))])) ∧ Holds ((8 : Nat) ≤ List.length (setAll (setAll a (2 : Nat) [AV.i IntKind.u8 (IntKind.wrap IntKind.u8 (IntKind.wrap IntKind.i64 (Int.tdiv (Qv (p ++ textOf l)) (256 : Int))))]) (3 : Nat) [AV.i IntKind.u8 (IntKind.wrap IntKind.u8 (Int.tmod (Qv (p ++ textOf l)) (256 : Int)))])) ∧ ∃ (l_1 : List Int), Holds (numsOf (List.take (8 : Nat) (List.drop (0 : Nat) (setAll (setAll a (2 : Nat) [AV.i IntKind.u8 (IntKind.wrap IntKind.u8 (IntKind.wrap IntKind.i64 (Int.tdiv (Qv (p ++ textOf l)) (256 : Int))))]) (3 : Nat) [AV.i IntKind.u8 (IntKind.wrap IntKind.u8 (Int.tmod (Qv (p ++ textOf l)) (256 : Int)))]))) = some l_1) ∧ R (AV.tu [AV.s (textOf l_1), AV.i IntKind.i64 (0 : Int)]) [Blk.cells [AV.i IntKind.i64 k, AV.i IntKind.i64 c, AV.i IntKind.u32 r, AV.s d] true, Blk.cells (setAll (setAll a (2 : Nat) [AV.i IntKind.u8 (IntKind.wrap IntKind.u8 (IntKind.wrap IntKind.i64 (Int.tdiv (Qv (p ++ textOf l)) (256 : Int))))]) (3 : Nat) [AV.i IntKind.u8 (IntKind.wrap IntKind.u8 (Int.tmod (Qv (p ++ textOf l)) (256 : Int)))]) true]) (Holds (((8 : Nat) + ByteArray.size s) * Prod.snd (nat_lit 0 + (1 : Nat), nat_lit 0 + (1 : Nat)) ≤ (140737488355328 : Nat) ∧ (0 : Nat) + (8 : Nat) * (1 : Nat) ≤ List.length (Prod.fst (a, true))) ∧ br (decide ((8 : Nat) + ByteArray.size s ≤ (8 : Nat))) (Holds ((0 : Nat) + ((8 : Nat) + ByteArray.size s) * (1 : Nat) ≤ List.length (Prod.fst (a, true)) ∧ List.all (bytesAV s) AV.one = true) ∧ Holds ((0 : Nat) + ((8 : Nat) + ByteArray.size s) ≤ List.length (setAll a (8 : Nat) (bytesAV s))) ∧ ∃ (l : List Int), Holds (numsOf (List.take ((8 : Nat) + ByteArray.size s) (List.drop (0 : Nat) (setAll a (8 : Nat) (bytesAV s)))) = some l) ∧ Holds (ByteArray.size p + ByteArray.size (textOf l) ≤ (9223372036854775807 : Nat)) ∧ Holds (smallS (p ++ textOf l)) ∧ Holds ((0 : Int) ≤ (2 : Int) ∧ (2 : Int) < (↑((8 : Nat) + ByteArray.size s) : Int)) ∧ Holds ((3 : Nat) ≤ List.length (setAll a (8 : Nat) (bytesAV s))) ∧ Holds ((0 : Int) ≤ (3 : Int) ∧ (3 : Int) < (↑((8 : Nat) + ByteArray.size s) : Int)) ∧ Holds ((4 : Nat) ≤ List.length (setAll (setAll a (8 : Nat) (bytesAV s)) (2 : Nat) [AV.i IntKind.u8 (IntKind.wrap IntKind.u8 (IntKind.wrap IntKind.i64 (Int.tdiv (Qv (p ++ textOf l)) (256 : Int))))])) ∧ Holds ((0 : Nat) + ((8 : Nat) + ByteArray.size s) ≤ List.length (setAll (setAll (setAll a (8 : Nat) (bytesAV s)) (2 : Nat) [AV.i IntKind.u8 (IntKind.wrap IntKind.u8 (IntKind.wrap IntKind.i64 (Int.tdiv (Qv (p ++ textOf l)) (256 : Int))))]) (3 : Nat) [AV.i IntKind.u8 (IntKind.wrap IntKind.u8 (Int.tmod (Qv (p ++ textOf l)) (256 : Int)))])) ∧ ∃ (l_1 : List Int), Holds (numsOf (List.take ((8 : Nat) + ByteArray.size s) (List.drop (0 : Nat) (setAll (setAll (setAll a (8 : Nat) (bytesAV s)) (2 : Nat) [AV.i IntKind.u8 (IntKind.wrap IntKind.u8 (IntKind.wrap IntKind.i64 (Int.tdiv (Qv (p ++ textOf l)) (256 : Int))))]) (3 : Nat) [AV.i IntKind.u8 (IntKind.wrap IntKind.u8 (Int.tmod (Qv (p ++ textOf l)) (256 : Int)))]))) = some l_1) ∧ R (AV.tu [AV.s (textOf l_1), AV.i IntKind.i64 (0 : Int)]) [Blk.cells [AV.i IntKind.i64 k, AV.i IntKind.i64 c, AV.i IntKind.u32 r, AV.s d] true, Blk.cells (setAll (setAll (setAll a (8 : Nat) (bytesAV s)) (2 : Nat) [AV.i IntKind.u8 (IntKind.wrap IntKind.u8 (IntKind.wrap IntKind.i64 (Int.tdiv (Qv (p ++ textOf l)) (256 : Int))))]) (3 : Nat) [AV.i IntKind.u8 (IntKind.wrap IntKind.u8 (Int.tmod (Qv (p ++ textOf l)) (256 : Int)))]) true]) (Holds ((0 : Nat) + ((8 : Nat) + ByteArray.size s) ≤ List.length (List.take (8 : Nat) a ++ bytesAV s)) ∧ ∃ (l : List Int), Holds (numsOf (List.take ((8 : Nat) + ByteArray.size s) (List.drop (0 : Nat) (List.take (8 : Nat) a ++ bytesAV s))) = some l) ∧ Holds (ByteArray.size p + ByteArray.size (textOf l) ≤ (9223372036854775807 : Nat)) ∧ Holds (smallS (p ++ textOf l)) ∧ Holds ((0 : Int) ≤ (2 : Int) ∧ (2 : Int) < (↑((8 : Nat) + ByteArray.size s) : Int)) ∧ Holds ((3 : Nat) ≤ List.length (List.take (8 : Nat) a ++ bytesAV s)) ∧ Holds ((0 : Int) ≤ (3 : Int) ∧ (3 : Int) < (↑((8 : Nat) + ByteArray.size s) : Int)) ∧ Holds ((4 : Nat) ≤ List.length (setAll (List.take (8 : Nat) a ++ bytesAV s) (2 : Nat) [AV.i IntKind.u8 (IntKind.wrap IntKind.u8 (IntKind.wrap IntKind.i64 (Int.tdiv (Qv (p ++ textOf l)) (256 : Int))))])) ∧ Holds ((0 : Nat) + ((8 : Nat) + ByteArray.size s) ≤ List.length (setAll (setAll (List.take (8 : Nat) a ++ bytesAV s) (2 : Nat) [AV.i IntKind.u8 (IntKind.wrap IntKind.u8 (IntKind.wrap IntKind.i64 (Int.tdiv (Qv (p ++ textOf l)) (256 : Int))))]) (3 : Nat) [AV.i IntKind.u8 (IntKind.wrap IntKind.u8 (Int.tmod (Qv (p ++ textOf l)) (256 : Int)))])) ∧ ∃ (l_1 : List Int), Holds (numsOf (List.take ((8 : Nat) + ByteArray.size s) (List.drop (0 : Nat) (setAll (setAll (List.take (8 : Nat) a ++ bytesAV s) (2 : Nat) [AV.i IntKind.u8 (IntKind.wrap IntKind.u8 (IntKind.wrap IntKind.i64 (Int.tdiv (Qv (p ++ textOf l)) (256 : Int))))]) (3 : Nat) [AV.i IntKind.u8 (IntKind.wrap IntKind.u8 (Int.tmod (Qv (p ++ textOf l)) (256 : Int)))]))) = some l_1) ∧ R (AV.tu [AV.s (textOf l_1), AV.i IntKind.i64 (0 : Int)]) [Blk.cells [AV.i IntKind.i64 k, AV.i IntKind.i64 c, AV.i IntKind.u32 r, AV.s d] true, Blk.cells a true, Blk.cells (setAll (setAll (List.take (8 : Nat) a ++ bytesAV s) (2 : Nat) [AV.i IntKind.u8 (IntKind.wrap IntKind.u8 (IntKind.wrap IntKind.i64 (Int.tdiv (Qv (p ++ textOf l)) (256 : Int))))]) (3 : Nat) [AV.i IntKind.u8 (IntKind.wrap IntKind.u8 (Int.tmod (Qv (p ++ textOf l)) (256 : Int)))]) true]))))))) := by kernel_rfl
theorem vc22 (Rv : List ByteArray → Bool) (V : ByteArray → Int) (s p : ByteArray) (R : AV → Hp → Prop) : (wpFn P (T166 Rv V) noW noL 0 Go.Proofs.Try.f22 [.s s, .s p] [] R) = (br (decide ((↑(ByteArray.size s) : Int) < (8 : Int))) (Holds ((4 : Nat) ≤ List.length [AV.i IntKind.i64 (0 : Int), AV.i IntKind.i64 (0 : Int), AV.i IntKind.u32 (0 : Int), AV.s { data := #[] }]) ∧ R (AV.tu [AV.ag [AV.i IntKind.i64 (0 : Int), AV.i IntKind.i64 (0 : Int), AV.i IntKind.u32 (0 : Int), AV.s { data := #[] }], AV.ic (65 : Nat) (AV.p (1 : Nat) (0 : Nat))]) [Blk.cells [AV.i IntKind.i64 (0 : Int), AV.i IntKind.i64 (0 : Int), AV.i IntKind.u32 (0 : Int), AV.s { data := #[] }] true, Blk.cells [AV.i IntKind.i64 (7 : Int), AV.i IntKind.i64 (0 : Int)] true]) (∃ (l : List ByteArray), Holds ([AV.s p, AV.s s] = List.map AV.s l) ∧ Holds (List.length l = (2 : Nat)) ∧ Holds (okL l) ∧ br (!Rv l) (Holds ((4 : Nat) ≤ List.length [AV.i IntKind.i64 (0 : Int), AV.i IntKind.i64 (0 : Int), AV.i IntKind.u32 (0 : Int), AV.s { data := #[] }]) ∧ R (AV.tu [AV.ag [AV.i IntKind.i64 (0 : Int), AV.i IntKind.i64 (0 : Int), AV.i IntKind.u32 (0 : Int), AV.s { data := #[] }], AV.ic (65 : Nat) (AV.p (2 : Nat) (0 : Nat))]) [Blk.cells [AV.i IntKind.i64 (0 : Int), AV.i IntKind.i64 (0 : Int), AV.i IntKind.u32 (0 : Int), AV.s { data := #[] }] true, Blk.cells [AV.s p, AV.s s] true, Blk.cells [AV.i IntKind.i64 (9 : Int), AV.i IntKind.i64 (0 : Int)] true]) (Holds ((0 : Int) ≤ (4 : Int) ∧ (4 : Int) ≤ (↑(ByteArray.size s) : Int)) ∧ Holds ((0 : Int) = (0 : Int)) ∧ Holds ((4 : Nat) ≤ ByteArray.size (ByteArray.extract s (Int.toNat (4 : Int)) (ByteArray.size s)) ∧ ByteArray.size (ByteArray.extract s (Int.toNat (4 : Int)) (ByteArray.size s)) ≤ (1073741824 : Nat)) ∧ Holds ((0 : Int) ≤ (0 : Int)) ∧ ∃ (b : UInt8), Holds (s[(0 : Nat)]? = some b) ∧ Holds ((0 : Int) ≤ (1 : Int)) ∧ ∃ (b_1 : UInt8), Holds (s[(1 : Nat)]? = some b_1) ∧ Holds ((0 : Int) ≤ (8 : Int) ∧ (8 : Int) ≤ (↑(ByteArray.size s) : Int)) ∧ Holds ((4 : Nat) ≤ List.length [AV.i IntKind.i64 (0 : Int), AV.i IntKind.i64 (0 : Int), AV.i IntKind.u32 (0 : Int), AV.s { data := #[] }]) ∧ R (AV.tu [AV.ag [AV.i IntKind.i64 (IntKind.wrap IntKind.i64 (↑(UInt8.toNat b) : Int)), AV.i IntKind.i64 (IntKind.wrap IntKind.i64 (↑(UInt8.toNat b_1) : Int)), AV.i IntKind.u32 (IntKind.wrap IntKind.u32 (V (ByteArray.extract s (Int.toNat (4 : Int)) (ByteArray.size s)))), AV.s (ByteArray.extract s (Int.toNat (8 : Int)) (ByteArray.size s))], AV.ni]) [Blk.cells [AV.i IntKind.i64 (IntKind.wrap IntKind.i64 (↑(UInt8.toNat b) : Int)), AV.i IntKind.i64 (IntKind.wrap IntKind.i64 (↑(UInt8.toNat b_1) : Int)), AV.i IntKind.u32 (IntKind.wrap IntKind.u32 (V (ByteArray.extract s (Int.toNat (4 : Int)) (ByteArray.size s)))), AV.s (ByteArray.extract s (Int.toNat (8 : Int)) (ByteArray.size s))] true, Blk.cells [AV.s p, AV.s s] true, Blk.cells [AV.s (ByteArray.extract s (Int.toNat (4 : Int)) (ByteArray.size s)), AV.i IntKind.i64 (4 : Int), AV.pn] true]))) := by kernel_rfl
theorem vcp23 (Qv : ByteArray → Int) (Wv : ByteArray → List Int) (p s : ByteArray) (R : AV → Hp → Prop) : (wpFn P (T15 Qv Wv) noW noL 0 Go.Proofs.Try.f23 [.s p, .s s] [] R) = (br (decide ((↑(ByteArray.size s) : Int) < (8 : Int))) (Holds ((4 : Nat) ≤ List.length [AV.i IntKind.i64 (0 : Int), AV.i IntKind.i64 (0 : Int), AV.i IntKind.u32 (0 : Int), AV.s { data := #[] }]) ∧ R (AV.tu [AV.ag [AV.i IntKind.i64 (0 : Int), AV.i IntKind.i64 (0 : Int), AV.i IntKind.u32 (0 : Int), AV.s { data := #[] }], AV.i IntKind.i64 (7 : Int)]) [Blk.cells [AV.i IntKind.i64 (0 : Int), AV.i IntKind.i64 (0 : Int), AV.i IntKind.u32 (0 : Int), AV.s { data := #[] }] true]) (Holds (ByteArray.size p + ByteArray.size s ≤ (9223372036854775807 : Nat)) ∧ Holds (smallS (p ++ s)) ∧ br (Qv (p ++ s) != (0 : Int)) (Holds ((4 : Nat) ≤ List.length [AV.i IntKind.i64 (0 : Int), AV.i IntKind.i64 (0 : Int), AV.i IntKind.u32 (0 : Int), AV.s { data := #[] }]) ∧ R (AV.tu [AV.ag [AV.i IntKind.i64 (0 : Int), AV.i IntKind.i64 (0 : Int), AV.i IntKind.u32 (0 : Int), AV.s { data := #[] }], AV.i IntKind.i64 (9 : Int)]) [Blk.cells [AV.i IntKind.i64 (0 : Int), AV.i IntKind.i64 (0 : Int), AV.i IntKind.u32 (0 : Int), AV.s { data := #[] }] true]) (Holds ((0 : Int) ≤ (8 : Int) ∧ (8 : Int) ≤ (↑(ByteArray.size s) : Int)) ∧ Holds (ByteArray.size (ByteArray.extract s (0 : Nat) (Int.toNat (8 : Int))) ≤ (1073741824 : Nat)) ∧ (Holds (Wv (ByteArray.extract s (0 : Nat) (Int.toNat (8 : Int))) = []) → False) ∧ (Holds (Wv (ByteArray.extract s (0 : Nat) (Int.toNat (8 : Int))) ≠ []) → Holds ((0 : Int) ≤ (0 : Int) ∧ (0 : Int) < (↑(List.length (Wv (ByteArray.extract s (0 : Nat) (Int.toNat (8 : Int))))) : Int)) ∧ ∃ (n : Int), Holds ((List.map (AV.i IntKind.i64) (Wv (ByteArray.extract s (0 : Nat) (Int.toNat (8 : Int)))))[(0 : Nat)]? = some (AV.i IntKind.i64 n)) ∧ Holds ((0 : Int) ≤ (0 : Int) ∧ (0 : Int) < (↑(List.length (Wv (ByteArray.extract s (0 : Nat) (Int.toNat (8 : Int))))) : Int)) ∧ ∃ (n_1 : Int), Holds ((List.map (AV.i IntKind.i64) (Wv (ByteArray.extract s (0 : Nat) (Int.toNat (8 : Int)))))[(0 : Nat)]? = some (AV.i IntKind.i64 n_1)) ∧ Holds ((0 : Int) ≤ (2 : Int) ∧ (2 : Int) < (↑(List.length (Wv (ByteArray.extract s (0 : Nat) (Int.toNat (8 : Int))))) : Int)) ∧ ∃ (n_2 : Int), Holds ((List.map (AV.i IntKind.i64) (Wv (ByteArray.extract s (0 : Nat) (Int.toNat (8 : Int)))))[(2 : Nat)]? = some (AV.i IntKind.i64 n_2)) ∧ Holds ((0 : Int) ≤ (3 : Int) ∧ (3 : Int) < (↑(List.length (Wv (ByteArray.extract s (0 : Nat) (Int.toNat (8 : Int))))) : Int)) ∧ ∃ (n_3 : Int), Holds ((List.map (AV.i IntKind.i64) (Wv (ByteArray.extract s (0 : Nat) (Int.toNat (8 : Int)))))[(3 : Nat)]? = some (AV.i IntKind.i64 n_3)) ∧ Holds ((0 : Int) ≤ (8 : Int) ∧ (8 : Int) ≤ (↑(ByteArray.size s) : Int)) ∧ Holds ((4 : Nat) ≤ List.length [AV.i IntKind.i64 (0 : Int), AV.i IntKind.i64 (0 : Int), AV.i IntKind.u32 (0 : Int), AV.s { data := #[] }]) ∧ R (AV.tu [AV.ag [AV.i IntKind.i64 (IntKind.wrap IntKind.i64 (Int.tdiv n (256 : Int))), AV.i IntKind.i64 (Int.tmod n_1 (256 : Int)), AV.i IntKind.u32 (IntKind.wrap IntKind.u32 (IntKind.wrap IntKind.u32 (IntKind.wrap IntKind.u32 n_2 * (65536 : Int)) + IntKind.wrap IntKind.u32 n_3)), AV.s (ByteArray.extract s (Int.toNat (8 : Int)) (ByteArray.size s))], AV.i IntKind.i64 (0 : Int)]) [Blk.cells [AV.i IntKind.i64 (IntKind.wrap IntKind.i64 (Int.tdiv n (256 : Int))), AV.i IntKind.i64 (Int.tmod n_1 (256 : Int)), AV.i IntKind.u32 (IntKind.wrap IntKind.u32 (IntKind.wrap IntKind.u32 (IntKind.wrap IntKind.u32 n_2 * (65536 : Int)) + IntKind.wrap IntKind.u32 n_3)), AV.s (ByteArray.extract s (Int.toNat (8 : Int)) (ByteArray.size s))] true, Blk.cells (List.map (AV.i IntKind.i64) (Wv (ByteArray.extract s (0 : Nat) (Int.toNat (8 : Int))))) true])))) := by kernel_rfl
open Go.Proofs.Ythlehnnmkadigaa.SumMath
theorem wrap8 (x : Int) : IntKind.wrap .u8 x = x % 256 := by simp [IntKind.wrap, IntKind.bits, IntKind.signed]
theorem take_list (s : ByteArray) (n : Nat) : (s.extract 0 n).data.toList = s.data.toList.take n := by
  rw [ByteArray.data_extract, Array.toList_extract]; simp
theorem ws_two (a b : List UInt8) (h : a.length % 2 = 0) : ws false true (a ++ b) = ws false true a + ws false true b := by rw [ws_append, pe_even h]
theorem cat_len {k : Nat} : ∀ {l : List ByteArray}, (∀ x ∈ l, x.size ≤ k) → (cat l).length ≤ k * l.length
  | [], _ => by simp [cat]
  | x :: l, h => by
    have h1 := h x (by simp)
    have h2 := cat_len (k := k) (l := l) fun y hy => h y (by simp [hy])
    have : cat (x :: l) = x.data.toList ++ cat l := by simp [cat]
    rw [this, List.length_append, ← size_len, List.length_cons, Nat.mul_succ]; omega
theorem ok5 {l : List ByteArray} (h : l.length ≤ 5) (h2 : ∀ x ∈ l, x.size ≤ 10000) : okL l := by
  have := cat_len h2
  have h3 : 10000 * l.length ≤ 10000 * 5 := Nat.mul_le_mul_left _ h
  exact ⟨by omega, by omega⟩
def putL : Int → Nat → List Int
  | _, 0 => []
  | x, n + 1 => putL (x / 256) n ++ [x % 256]
def Lv (x n : Int) : ByteArray := textOf (putL x n.toNat)
theorem textOf_append (a b : List Int) : textOf a ++ textOf b = textOf (a ++ b) := by
  apply ByteArray.ext
  apply Array.toList_inj.1
  rw [add_list]; simp [textOf]
theorem textOf_size (a : List Int) : (textOf a).size = a.length := by rw [size_len]; simp [textOf]
theorem textOf_nil : (⟨#[]⟩ : ByteArray) = textOf [] := rfl
theorem textOf_zero : (⟨#[0]⟩ : ByteArray) = textOf [0] := rfl
theorem putL_len : ∀ (n : Nat) (x : Int), (putL x n).length = n
  | 0, x => rfl
  | n + 1, x => by rw [putL, List.length_append, putL_len n]; rfl
def goodBig (q : Int × Int) : Prop := 0 ≤ q.1 ∧ q.1 < 256 ^ q.2.toNat
theorem gone {t t' : AV} {h : Hp} {j : Nat} {c : List AV} (hj : h[j]? = some (.cells c true)) (hu : AV.unders 0 c = true) (hl : j < h.length) (ht : reA (posOf [j]) t = t') : Wk 0 ⟨[t], h⟩ ⟨[t'], [.cells c true]⟩ :=
  Wk.rows [j] (by simp) (by simp [hl]) rfl (gcR_one hj hu) (by rw [reAs, reAs, ht])
theorem run39_1 {x : Int} {R : AV → Hp → Prop} (h1 : goodBig (x, 1) → ∀ h, R (.tu [.s (Lv x 1), .ni]) h) (h2 : ¬ goodBig (x, 1) → ∀ v h, Wk 0 ⟨[v], h⟩ ⟨[eeBig (x, 1) 0], [.cells [.i .i64 13, .i .i64 0] true]⟩ → R v h) : Holds (wpFn P tnil noW noL 0 Go.Proofs.Try.f39 [.i .i64 x, .i .i64 1] [] R) := by
  refine ⟨?_⟩
  rw [vc39_1]
  have k0 : 0 ≤ x → Int.fdiv x ((2 : Int) ^ min (Int.toNat (IntKind.wrap .i64 (8 * IntKind.wrap .i64 (IntKind.wrap .i64 (1 - 1) - 0)))) (IntKind.bits IntKind.i64)) = x := by
    intro h0
    rw [show ((2 : Int) ^ min (Int.toNat (IntKind.wrap .i64 (8 * IntKind.wrap .i64 (IntKind.wrap .i64 (1 - 1) - 0)))) (IntKind.bits IntKind.i64)) = 1 from by decide, Int.fdiv_eq_ediv_of_nonneg _ (by decide)]; try omega
  have eM : IntKind.wrap .i64 (1 * 2 ^ min (Int.toNat (IntKind.wrap .i64 (8 * 1))) (IntKind.bits IntKind.i64)) = 256 := by decide
  rw [eM]
  have bad : ¬ goodBig (x, 1) → ∀ h : Hp, h[0]? = some (.cells [.i .i64 13, .i .i64 0] true) → R (.tu [.s ⟨#[]⟩, .ic 65 (.p 0 0)]) h := fun hg h hh => h2 hg _ _ (gone hh rfl (List.getElem?_eq_some_iff.1 hh).1 rfl)
  refine br_intro (fun h => bad (fun hg => ?_) _ rfl) (fun hx => ⟨⟨by decide⟩, br_intro (fun h => bad (fun hg => ?_) _ rfl) (fun hy => ?_)⟩)
  · have h : x < 0 := by simpa using h
    have := hg.1
    simp only at this; omega
  · have h : x ≥ 256 := by simpa using h
    have := hg.2
    simp only [show (256 : Int) ^ (1 : Int).toNat = 256 from by decide] at this; omega
  · have hx : ¬ x < 0 := by simpa using hx
    have hy : ¬ x ≥ 256 := by simpa using hy
    have hx : 0 ≤ x := by omega
    rw [k0 hx]
    have hg : goodBig (x, 1) := ⟨hx, by simp only [show (256 : Int) ^ (1 : Int).toNat = 256 from by decide]; omega⟩
    repeat (refine ⟨⟨by first | decide | (simp; done)⟩, ?_⟩)
    refine ⟨_, ⟨rfl⟩, ?_⟩
    have := h1 hg
    simp only [wrap8]
    exact this _
theorem run39_2 {x : Int} {R : AV → Hp → Prop} (h1 : goodBig (x, 2) → ∀ h, R (.tu [.s (Lv x 2), .ni]) h) (h2 : ¬ goodBig (x, 2) → ∀ v h, Wk 0 ⟨[v], h⟩ ⟨[eeBig (x, 2) 0], [.cells [.i .i64 13, .i .i64 0] true]⟩ → R v h) : Holds (wpFn P tnil noW noL 0 Go.Proofs.Try.f39 [.i .i64 x, .i .i64 2] [] R) := by
  refine ⟨?_⟩
  rw [vc39_2]
  have k0 : 0 ≤ x → Int.fdiv x ((2 : Int) ^ min (Int.toNat (IntKind.wrap .i64 (8 * IntKind.wrap .i64 (IntKind.wrap .i64 (2 - 1) - 0)))) (IntKind.bits IntKind.i64)) = x / 256 := by
    intro h0
    rw [show ((2 : Int) ^ min (Int.toNat (IntKind.wrap .i64 (8 * IntKind.wrap .i64 (IntKind.wrap .i64 (2 - 1) - 0)))) (IntKind.bits IntKind.i64)) = 256 from by decide, Int.fdiv_eq_ediv_of_nonneg _ (by decide)]; try omega
  have k1 : 0 ≤ x → Int.fdiv x ((2 : Int) ^ min (Int.toNat (IntKind.wrap .i64 (8 * IntKind.wrap .i64 (IntKind.wrap .i64 (2 - 1) - IntKind.wrap .i64 (0 + 1))))) (IntKind.bits IntKind.i64)) = x := by
    intro h0
    rw [show ((2 : Int) ^ min (Int.toNat (IntKind.wrap .i64 (8 * IntKind.wrap .i64 (IntKind.wrap .i64 (2 - 1) - IntKind.wrap .i64 (0 + 1))))) (IntKind.bits IntKind.i64)) = 1 from by decide, Int.fdiv_eq_ediv_of_nonneg _ (by decide)]; try omega
  have eM : IntKind.wrap .i64 (1 * 2 ^ min (Int.toNat (IntKind.wrap .i64 (8 * 2))) (IntKind.bits IntKind.i64)) = 65536 := by decide
  rw [eM]
  have bad : ¬ goodBig (x, 2) → ∀ h : Hp, h[0]? = some (.cells [.i .i64 13, .i .i64 0] true) → R (.tu [.s ⟨#[]⟩, .ic 65 (.p 0 0)]) h := fun hg h hh => h2 hg _ _ (gone hh rfl (List.getElem?_eq_some_iff.1 hh).1 rfl)
  refine br_intro (fun h => bad (fun hg => ?_) _ rfl) (fun hx => ⟨⟨by decide⟩, br_intro (fun h => bad (fun hg => ?_) _ rfl) (fun hy => ?_)⟩)
  · have h : x < 0 := by simpa using h
    have := hg.1
    simp only at this; omega
  · have h : x ≥ 65536 := by simpa using h
    have := hg.2
    simp only [show (256 : Int) ^ (2 : Int).toNat = 65536 from by decide] at this; omega
  · have hx : ¬ x < 0 := by simpa using hx
    have hy : ¬ x ≥ 65536 := by simpa using hy
    have hx : 0 ≤ x := by omega
    rw [k0 hx, k1 hx]
    have hg : goodBig (x, 2) := ⟨hx, by simp only [show (256 : Int) ^ (2 : Int).toNat = 65536 from by decide]; omega⟩
    repeat (refine ⟨⟨by first | decide | (simp; done)⟩, ?_⟩)
    refine ⟨_, ⟨rfl⟩, ?_⟩
    have := h1 hg
    simp only [wrap8]
    exact this _
theorem run39_4 {x : Int} {R : AV → Hp → Prop} (h1 : goodBig (x, 4) → ∀ h, R (.tu [.s (Lv x 4), .ni]) h) (h2 : ¬ goodBig (x, 4) → ∀ v h, Wk 0 ⟨[v], h⟩ ⟨[eeBig (x, 4) 0], [.cells [.i .i64 13, .i .i64 0] true]⟩ → R v h) : Holds (wpFn P tnil noW noL 0 Go.Proofs.Try.f39 [.i .i64 x, .i .i64 4] [] R) := by
  refine ⟨?_⟩
  rw [vc39_4]
  have k0 : 0 ≤ x → Int.fdiv x ((2 : Int) ^ min (Int.toNat (IntKind.wrap .i64 (8 * IntKind.wrap .i64 (IntKind.wrap .i64 (4 - 1) - 0)))) (IntKind.bits IntKind.i64)) = x / 256 / 256 / 256 := by
    intro h0
    rw [show ((2 : Int) ^ min (Int.toNat (IntKind.wrap .i64 (8 * IntKind.wrap .i64 (IntKind.wrap .i64 (4 - 1) - 0)))) (IntKind.bits IntKind.i64)) = 16777216 from by decide, Int.fdiv_eq_ediv_of_nonneg _ (by decide)]; try omega
  have k1 : 0 ≤ x → Int.fdiv x ((2 : Int) ^ min (Int.toNat (IntKind.wrap .i64 (8 * IntKind.wrap .i64 (IntKind.wrap .i64 (4 - 1) - IntKind.wrap .i64 (0 + 1))))) (IntKind.bits IntKind.i64)) = x / 256 / 256 := by
    intro h0
    rw [show ((2 : Int) ^ min (Int.toNat (IntKind.wrap .i64 (8 * IntKind.wrap .i64 (IntKind.wrap .i64 (4 - 1) - IntKind.wrap .i64 (0 + 1))))) (IntKind.bits IntKind.i64)) = 65536 from by decide, Int.fdiv_eq_ediv_of_nonneg _ (by decide)]; try omega
  have k2 : 0 ≤ x → Int.fdiv x ((2 : Int) ^ min (Int.toNat (IntKind.wrap .i64 (8 * IntKind.wrap .i64 (IntKind.wrap .i64 (4 - 1) - IntKind.wrap .i64 (IntKind.wrap .i64 (0 + 1) + 1))))) (IntKind.bits IntKind.i64)) = x / 256 := by
    intro h0
    rw [show ((2 : Int) ^ min (Int.toNat (IntKind.wrap .i64 (8 * IntKind.wrap .i64 (IntKind.wrap .i64 (4 - 1) - IntKind.wrap .i64 (IntKind.wrap .i64 (0 + 1) + 1))))) (IntKind.bits IntKind.i64)) = 256 from by decide, Int.fdiv_eq_ediv_of_nonneg _ (by decide)]; try omega
  have k3 : 0 ≤ x → Int.fdiv x ((2 : Int) ^ min (Int.toNat (IntKind.wrap .i64 (8 * IntKind.wrap .i64 (IntKind.wrap .i64 (4 - 1) - IntKind.wrap .i64 (IntKind.wrap .i64 (IntKind.wrap .i64 (0 + 1) + 1) + 1))))) (IntKind.bits IntKind.i64)) = x := by
    intro h0
    rw [show ((2 : Int) ^ min (Int.toNat (IntKind.wrap .i64 (8 * IntKind.wrap .i64 (IntKind.wrap .i64 (4 - 1) - IntKind.wrap .i64 (IntKind.wrap .i64 (IntKind.wrap .i64 (0 + 1) + 1) + 1))))) (IntKind.bits IntKind.i64)) = 1 from by decide, Int.fdiv_eq_ediv_of_nonneg _ (by decide)]; try omega
  have eM : IntKind.wrap .i64 (1 * 2 ^ min (Int.toNat (IntKind.wrap .i64 (8 * 4))) (IntKind.bits IntKind.i64)) = 4294967296 := by decide
  rw [eM]
  have bad : ¬ goodBig (x, 4) → ∀ h : Hp, h[0]? = some (.cells [.i .i64 13, .i .i64 0] true) → R (.tu [.s ⟨#[]⟩, .ic 65 (.p 0 0)]) h := fun hg h hh => h2 hg _ _ (gone hh rfl (List.getElem?_eq_some_iff.1 hh).1 rfl)
  refine br_intro (fun h => bad (fun hg => ?_) _ rfl) (fun hx => ⟨⟨by decide⟩, br_intro (fun h => bad (fun hg => ?_) _ rfl) (fun hy => ?_)⟩)
  · have h : x < 0 := by simpa using h
    have := hg.1
    simp only at this; omega
  · have h : x ≥ 4294967296 := by simpa using h
    have := hg.2
    simp only [show (256 : Int) ^ (4 : Int).toNat = 4294967296 from by decide] at this; omega
  · have hx : ¬ x < 0 := by simpa using hx
    have hy : ¬ x ≥ 4294967296 := by simpa using hy
    have hx : 0 ≤ x := by omega
    rw [k0 hx, k1 hx, k2 hx, k3 hx]
    have hg : goodBig (x, 4) := ⟨hx, by simp only [show (256 : Int) ^ (4 : Int).toNat = 4294967296 from by decide]; omega⟩
    repeat (refine ⟨⟨by first | decide | (simp; done)⟩, ?_⟩)
    refine ⟨_, ⟨rfl⟩, ?_⟩
    have := h1 hg
    simp only [wrap8]
    exact this _
theorem ok39 : fnOk1 P noW 39 Go.Proofs.Try.f39 := ⟨Go.Proofs.Try.func39, by kernel_rfl, by kernel_rfl, by kernel_rfl⟩
def mkNum (q : Int × Int) : List AV := [.i .i64 q.1, .i .i64 q.2]
theorem mkNum_inj (x y : Int × Int) (h : mkNum x = mkNum y) : x = y := by
  obtain ⟨a, b⟩ := x
  obtain ⟨a', b'⟩ := y
  simp only [mkNum, List.cons.injEq, AV.i.injEq, and_true, true_and] at h
  obtain ⟨rfl, rfl⟩ := h
  rfl
theorem unNum_eq (args : List AV) (x : Int × Int) (h : unNum args = some x) : args = mkNum x := by
  unfold unNum at h
  split at h
  · cases h; rfl
  · cases h
abbrev S39 : Rel := Sfault mkNum okBigN goodBig (fun q => .tu [.s (Lv q.1 q.2), .ni]) eeBig (fun _ => [.i .i64 13, .i .i64 0])
theorem s39 : SoundF P 39 (Cof S39) := SoundF.fault (follows_nil noEnv) (noEnv_sound P) mo ok39 (fun _ => rfl) (fun _ => rfl) (fun _ n => by simp [eeBig, reA, reAs, backN]) (fun _ => rfl) noL fun q hq R h1 h2 => by
  obtain ⟨x, n⟩ := q
  rcases hq with hq | hq | hq
  · obtain rfl : n = 1 := hq
    exact run39_1 h1 h2
  · obtain rfl : n = 2 := hq
    exact run39_2 h1 h2
  · obtain rfl : n = 4 := hq
    exact run39_4 h1 h2
theorem f39_f : FollowsF (T39 goodBig Lv) (Cof S39) := tfault_f mkNum_inj unNum_eq
/-! the reader: four bytes -/
def beV (l : List UInt8) : Int := l.foldl (fun n b => n * 256 + (b.toNat : Int)) 0
def V4 (t : ByteArray) : Int := beV (t.data.toList.take 4)
theorem or64 {a b : Int} (a0 : 0 ≤ a) (a1 : a < 4294967296) (b0 : 0 ≤ b) (b1 : b < 256) : Go.bits .or .i64 (a * 256) b = a * 256 + b := by
  unfold Go.bits
  have e : (BitVec.ofInt IntKind.i64.bits (a * 256) ||| BitVec.ofInt IntKind.i64.bits b).toNat = a.toNat * 256 + b.toNat := by
    rw [BitVec.toNat_or]
    have h1 : (BitVec.ofInt IntKind.i64.bits (a * 256)).toNat = a.toNat <<< 8 := by
      rw [BitVec.toNat_ofInt, Nat.shiftLeft_eq]
      show ((a * 256) % 18446744073709551616).toNat = _
      omega
    have h2 : (BitVec.ofInt IntKind.i64.bits b).toNat = b.toNat := by
      rw [BitVec.toNat_ofInt]
      show (b % 18446744073709551616).toNat = _
      omega
    rw [h1, h2, ← Nat.shiftLeft_add_eq_or_of_lt (show b.toNat < 2 ^ 8 by omega), Nat.shiftLeft_eq]
  simp only [e]
  rw [i64w (by omega) (by omega)]; omega
theorem beV_snoc (l : List UInt8) (b : UInt8) : beV (l ++ [b]) = beV l * 256 + (b.toNat : Int) := by
  unfold beV; rw [List.foldl_append]; rfl
theorem beV_range : ∀ (n : Nat) (l : List UInt8), l.length = n → 0 ≤ beV l ∧ beV l < 256 ^ n
  | 0, l, h => by
    obtain rfl := List.length_eq_zero_iff.1 h
    exact ⟨by decide, by decide⟩
  | n + 1, l, h => by
    have hne : l ≠ [] := fun e => by rw [e] at h; simp at h
    have e := List.dropLast_concat_getLast hne
    have hl : l.dropLast.length = n := by rw [List.length_dropLast, h]; rfl
    have ih := beV_range n l.dropLast hl
    rw [← e, beV_snoc]
    have hb := (l.getLast hne).toNat_lt
    rw [Int.pow_succ]
    omega
theorem run51 {t : ByteArray} (ht : 4 ≤ t.size ∧ t.size ≤ 1073741824) {R : AV → Hp → Prop} (hR : R (.tu [.i .i64 (V4 t), .ni]) [.cells [.s t, .i .i64 4, .pn] true]) : Holds (wpFn P (tcons 52 (tinl P tnil noW Go.Proofs.Try.f52) tnil) noW head51 1 Go.Proofs.Try.f51 [.p 0 0, .i .i64 4] [.cells [.s t, .i .i64 0, .pn] true] R) := by
  refine ⟨?_⟩
  rw [vc51]
  refine ⟨_, ⟨rfl⟩, _, ⟨rfl⟩, br_intro (fun h => ?_) (fun _ => ?_)⟩
  · have h : (4 : Int) > IntKind.wrap .i64 ((t.size : Int) - 0) := by simpa using h
    rw [i64w (by omega) (by omega)] at h; omega
  refine ⟨_, ⟨rfl⟩, _, ⟨rfl⟩, _, ⟨rfl⟩, ?_⟩
  rw [show IntKind.wrap .i64 (0 + 4) = 4 from by decide]
  refine ⟨⟨by omega⟩, ⟨by decide⟩, _, ⟨rfl⟩, ⟨by simp⟩, Wk.refl _ _, ?_⟩
  rw [show IntKind.wrap .i64 (0 + 4) = 4 from by decide]
  have hx : (t.extract (Int.toNat 0) (Int.toNat 4)).data.toList = t.data.toList.take 4 := take_list t 4
  generalize t.extract (Int.toNat 0) (Int.toNat 4) = x at hx ⊢
  have hl : t.data.toList.length = t.size := by rw [Array.length_toList]; rfl
  have xl : x.data.toList.length = 4 := by rw [hx, List.length_take]; omega
  have xs : x.size = 4 := by rw [← xl, Array.length_toList]; rfl
  rw [xs]
  refine ⟨fun k q => ∃ i : Nat, q = (x, beV (x.data.toList.take i), 4, (i : Int), [.s t, .i .i64 4, .pn]) ∧ i + k = 4, 4, ⟨0, rfl, rfl⟩, ?_⟩
  rintro q k ⟨i, rfl, hk⟩
  refine br_intro (fun h => ?_) (fun h => ?_)
  · have h : (i : Int) < 4 := by simpa using h
    have hi : i < x.data.toList.length := by omega
    have hr := beV_range i (x.data.toList.take i) (by rw [List.length_take]; omega)
    have hp : (256 : Int) ^ i ≤ 16777216 := by
      have : i = 0 ∨ i = 1 ∨ i = 2 ∨ i = 3 := by omega
      rcases this with rfl | rfl | rfl | rfl <;> decide
    have hb := x.data.toList[i].toNat_lt
    have h8 : ((2 : Int) ^ min (Int.toNat (8 : Int)) (IntKind.bits IntKind.i64)) = 256 := by decide
    refine ⟨⟨by show 0 ≤ (i : Int); omega⟩, x.data.toList[i], ⟨by show x[Int.toNat (i : Int)]? = _; rw [Int.toNat_natCast]; exact byte_at rfl hi⟩, Wk.refl _ _, k - 1, ⟨by omega⟩, i + 1, ?_, by omega⟩
    show (x, Go.bits .or .i64 (IntKind.wrap .i64 (beV (x.data.toList.take i) * _)) (IntKind.wrap .i64 (x.data.toList[i].toNat : Int)), (4 : Int), IntKind.wrap .i64 ((i : Int) + 1), _) = _
    rw [h8, i64w (x := (x.data.toList[i].toNat : Int)) (by omega) (by omega), i64w (x := _ * 256) (by omega) (by omega), or64 hr.1 (by omega) (by omega) (by omega), ← beV_snoc, List.take_append_getElem hi, i64w (by omega) (by omega)]
    rfl
  · have h : (4 : Int) ≤ i := by simpa using h
    have e : V4 t = beV (x.data.toList.take i) := by unfold V4; rw [← hx, List.take_of_length_le (l := x.data.toList) (by omega)]
    rw [e] at hR
    exact hR
theorem run45 {t : ByteArray} (ht : 4 ≤ t.size ∧ t.size ≤ 1073741824) {R : AV → Hp → Prop} (hR : R (.tu [.i .i64 (V4 t), .ni]) [.cells [.s t, .i .i64 4, .pn] true]) : Holds (wpFn P (tcons 51 (t51 V4) tnil) noW noL 1 Go.Proofs.Try.f45 [.p 0 0] [.cells [.s t, .i .i64 0, .pn] true] R) := by
  refine ⟨?_⟩
  rw [vc45]
  exact ⟨⟨rfl, rfl⟩, ⟨ht⟩, hR⟩
def rngW (n : Int) : Prop := 0 ≤ n ∧ n ≤ 65535
theorem Ov_range (l : List ByteArray) : rngW (Ov l) := by
  have := F_range (ws false true (cat l)); unfold Ov rngW; omega
theorem numsOf_map : ∀ (l : List Int), numsOf (l.map (.i .u8)) = some l
  | [] => rfl
  | x :: r => by simp only [List.map_cons, numsOf, numsOf_map r, Option.map_some]
theorem bytesAV_eq (s : ByteArray) : bytesAV s = (s.data.toList.map fun b => (b.toNat : Int)).map (.i .u8) := by
  unfold bytesAV; rw [List.map_map]; rfl
/-! the reader's contracts -/
def Srd (mk : Nat → List AV) : Rel := fun args h r h' => ∃ (id : Nat) (t : ByteArray), args = mk id ∧ h[id]? = some (.cells [.s t, .i .i64 0, .pn] true) ∧ (4 ≤ t.size ∧ t.size ≤ 1073741824) ∧ r = .tu [.i .i64 (V4 t), .ni] ∧ h' = h.set id (.cells [.s t, .i .i64 4, .pn] true)
theorem Srd.det {mk : Nat → List AV} (hi : ∀ x y, mk x = mk y → x = y) : Det (Srd mk) := by
  rintro args h r h' r2 h2 ⟨id, t, rfl, h1, _, rfl, rfl⟩ ⟨id', t', e, h1', _, rfl, rfl⟩
  obtain rfl := hi _ _ e
  rw [h1] at h1'
  simp only [Option.some.injEq, Blk.cells.injEq, List.cons.injEq, AV.s.injEq, and_true] at h1'
  obtain rfl := h1'
  exact ⟨rfl, rfl⟩
theorem soundRd {T : TEnv} {W : Nat → Option Road} {Γ : Env} (hT : Follows T Γ) (hΓ : Sound P Γ) {f : FuncId} {fn : Func} (hf : fnOk1 P W f fn) {mk : Nat → List AV} (hmk : ∀ id, reAs (posOf [id]) (mk id) = mk 0) (LA : Nat → Option Head)
    (hrun : ∀ t : ByteArray, (4 ≤ t.size ∧ t.size ≤ 1073741824) → ∀ R : AV → Hp → Prop, R (.tu [.i .i64 (V4 t), .ni]) [.cells [.s t, .i .i64 4, .pn] true] → Holds (wpFn P T W LA 1 fn (mk 0) [.cells [.s t, .i .i64 0, .pn] true] R)) : SoundF P f (Cof (Srd mk)) := by
  refine SoundF.upd hT hΓ mo hf fun args h r h' hc => ?_
  obtain ⟨id, t, rfl, h1, ht, rfl, rfl⟩ := Cof_spec hc
  have hid := (List.getElem?_eq_some_iff.1 h1).1
  have hg : gcR [id] h = [.cells [.s t, .i .i64 0, .pn] true] := gcR_one h1 rfl
  have hw := (hrun t ht (fun v h1 => ∃ t1, Wk 1 ⟨[v], h1⟩ ⟨[t1], [.cells [.s t, .i .i64 4, .pn] true] ++ []⟩ ∧ t1 = .tu [.i .i64 (V4 t), .ni]) ⟨_, Wk.refl _ _, rfl⟩).out
  refine ⟨[id], LA, .tu [.i .i64 (V4 t), .ni], [.cells [.s t, .i .i64 4, .pn] true], [], by simp, by simpa using hid, rfl, ?_, rfl, by rw [hg]; rfl, ?_⟩
  · simp [putRows, reB, reAs, reA]
  · rw [hmk, hg]; exact hw
def mk51 (id : Nat) : List AV := [.p id 0, .i .i64 4]
def mk45 (id : Nat) : List AV := [.p id 0]
theorem ok42 : fnOk1 P noW 42 Go.Proofs.Try.f42 := ⟨Go.Proofs.Try.func42, by kernel_rfl, by kernel_rfl, by kernel_rfl⟩
theorem ok44 : fnOk1 P noW 44 Go.Proofs.Try.f44 := ⟨Go.Proofs.Try.func44, by kernel_rfl, by kernel_rfl, by kernel_rfl⟩
theorem ok45 : fnOk1 P noW 45 Go.Proofs.Try.f45 := ⟨Go.Proofs.Try.func45, by kernel_rfl, by kernel_rfl, by kernel_rfl⟩
theorem ok51 : fnOk1 P noW 51 Go.Proofs.Try.f51 := ⟨Go.Proofs.Try.func51, by kernel_rfl, by kernel_rfl, by kernel_rfl⟩
theorem ok52 : fnOk1 P noW 52 Go.Proofs.Try.f52 := ⟨Go.Proofs.Try.func52, by kernel_rfl, by kernel_rfl, by kernel_rfl⟩
noncomputable def E52 : Env := with1 52 (Cinl P noEnv noW Go.Proofs.Try.f52) noEnv
theorem E52_s : Sound P E52 := with1_sound ok52.ok (inl_s (noEnv_sound P) mo ok52) (noEnv_sound P)
theorem E52_f : Follows (tcons 52 (tinl P tnil noW Go.Proofs.Try.f52) tnil) E52 := follows_cons (tinl_f (follows_nil _) ok52) (follows_nil _)
theorem s51 : SoundF P 51 (Cof (Srd mk51)) := soundRd E52_f E52_s ok51 (fun id => by simp [mk51, reAs, reA, posOf]) head51 fun t ht R hR => run51 ht hR
theorem f51_f : FollowsF (t51 V4) (Cof (Srd mk51)) := by
  refine follows_of (Srd.det fun x y h => by simpa [mk51] using h) fun args h K hk => ?_
  unfold t51 at hk
  split at hk
  · rename_i id n
    split at hk
    · rename_i t a hc
      obtain ⟨⟨rfl, rfl⟩, ht, hK⟩ := And.imp_left Holds.out hk
      exact ⟨_, _, ⟨id, t, rfl, hcells_some hc, ht.out, rfl, rfl⟩, hK⟩
    · exact hk.elim
  · exact hk.elim
noncomputable def E51 : Env := with1 51 (Cof (Srd mk51)) noEnv
theorem E51_s : Sound P E51 := with1_sound ok51.ok s51 (noEnv_sound P)
theorem E51_f : Follows (tcons 51 (t51 V4) tnil) E51 := follows_cons f51_f (follows_nil _)
theorem s45 : SoundF P 45 (Cof (Srd mk45)) := soundRd E51_f E51_s ok45 (fun id => by simp [mk45, reAs, reA, posOf]) noL fun t ht R hR => run45 ht hR
theorem f45_f : FollowsF (tU32 V4) (Cof (Srd mk45)) := by
  refine follows_of (Srd.det fun x y h => by simpa [mk45] using h) fun args h K hk => ?_
  unfold tU32 at hk
  split at hk
  · rename_i id
    split at hk
    · rename_i t a hc
      obtain ⟨h0, ht, hK⟩ := hk
      obtain rfl := h0.out
      exact ⟨_, _, ⟨id, t, rfl, hcells_some hc, ht.out, rfl, rfl⟩, hK⟩
    · exact hk.elim
  · exact hk.elim
/-! a message's bytes -/
def wd (r : Int) : List Int := [r / 16777216, r / 65536 % 256, r / 256 % 256, r % 256]
def B0 (k c r : Int) : List Int := k :: c :: 0 :: 0 :: wd r
def hd (k c r n : Int) : List Int := k :: c :: n / 256 :: n % 256 :: wd r
def ints (d : ByteArray) : List Int := d.data.toList.map fun b => (b.toNat : Int)
def Nv (p : ByteArray) (k c r : Int) (d : ByteArray) : Int := 65535 - F (ws false true (p.data.toList ++ ((textOf (B0 k c r)).data.toList ++ d.data.toList)))
def BB (p : ByteArray) (k c r : Int) (d : ByteArray) : ByteArray := textOf (hd k c r (Nv p k c r d)) ++ d
def goodM (k c : Int) : Prop := (0 ≤ k ∧ k ≤ 255) ∧ (0 ≤ c ∧ c ≤ 255)
def okMs (r : Int) (d p : ByteArray) : Prop := (0 ≤ r ∧ r ≤ 4294967295) ∧ d.size ≤ 100000 ∧ p.size ≤ 100000
theorem textOf_list (l : List Int) : (textOf l).data.toList = l.map fun n => UInt8.ofNat n.toNat := by simp [textOf]
theorem bytes_ext {a b : ByteArray} (h : a.data.toList = b.data.toList) : a = b := ByteArray.ext (Array.toList_inj.1 h)
theorem textOf_ints (d : ByteArray) : textOf (ints d) = d := by
  apply bytes_ext
  rw [textOf_list, ints, List.map_map]
  conv => rhs; rw [← List.map_id d.data.toList]
  apply List.map_congr_left
  intro b _
  simp
theorem Nv_range (p : ByteArray) (k c r : Int) (d : ByteArray) : 0 ≤ Nv p k c r d ∧ Nv p k c r d ≤ 65535 := by
  have := F_range (ws false true (p.data.toList ++ ((textOf (B0 k c r)).data.toList ++ d.data.toList))); unfold Nv; omega
theorem Qv_Nv (p : ByteArray) (k c r : Int) (d : ByteArray) : Qv (p ++ textOf (B0 k c r ++ ints d)) = Nv p k c r d := by
  unfold Qv Wv Nv
  rw [isum_words _ (padl_even _), ws_pad, add_list, ← textOf_append, add_list, textOf_ints]
theorem Lv1 {k : Int} (h : 0 ≤ k ∧ k ≤ 255) : Lv k 1 = textOf [k] := by
  show textOf [k % 256] = _
  rw [show k % 256 = k by omega]
theorem Lv2 {n : Int} (h : 0 ≤ n ∧ n ≤ 65535) : Lv n 2 = textOf [n / 256, n % 256] := by
  show textOf [n / 256 % 256, n % 256] = _
  rw [show n / 256 % 256 = n / 256 by omega]
theorem Lv4 {r : Int} (h : 0 ≤ r ∧ r ≤ 4294967295) : Lv r 4 = textOf (wd r) := by
  show textOf [r / 256 / 256 / 256 % 256, r / 256 / 256 % 256, r / 256 % 256, r % 256] = _
  rw [show r / 256 / 256 / 256 % 256 = r / 16777216 by omega, show r / 256 / 256 % 256 = r / 65536 % 256 by omega]; rfl
theorem good1 {k : Int} : goodBig (k, 1) ↔ (0 ≤ k ∧ k ≤ 255) := by
  unfold goodBig
  simp only [show (256 : Int) ^ (1 : Int).toNat = 256 from by decide]
  omega
theorem good2 {k : Int} (h : 0 ≤ k ∧ k ≤ 65535) : goodBig (k, 2) := by
  unfold goodBig
  simp only [show (256 : Int) ^ (2 : Int).toNat = 65536 from by decide]
  omega
theorem good4 {k : Int} (h : 0 ≤ k ∧ k ≤ 4294967295) : goodBig (k, 4) := by
  unfold goodBig
  simp only [show (256 : Int) ^ (4 : Int).toNat = 4294967296 from by decide]
  omega
theorem Lv_size (x n : Int) : (Lv x n).size = n.toNat := by rw [Lv, textOf_size, putL_len]
def eeBy (n : Nat) : AV := .tu [.s ⟨#[]⟩, .ic 65 (.p n 0)]
theorem zz : (⟨#[0, 0]⟩ : ByteArray) = textOf [0, 0] := rfl
theorem run14m {k c r : Int} {d : ByteArray} (hm : okMs r d ⟨#[]⟩) {R : AV → Hp → Prop} (h1 : goodM k c → ∀ h, R (.tu [.s (BB ⟨#[]⟩ k c r d), .ni]) h) (h2 : ¬ goodM k c → ∀ v h, Wk 0 ⟨[v], h⟩ ⟨[eeBy 0], [.cells [.i .i64 13, .i .i64 0] true]⟩ → R v h) :
    Holds (wpFn P (T14 goodBig Lv Ov) noW noL 0 Go.Proofs.Try.f14 [.ag [.i .i64 k, .i .i64 c, .i .u32 r, .s d]] [] R) := by
  refine ⟨?_⟩
  rw [vcm14]
  obtain ⟨hr, hd', hp'⟩ := hm
  have bad : ¬ goodM k c → ∀ h : Hp, h[1]? = some (.cells [.i .i64 13, .i .i64 0] true) → R (.tu [.s ⟨#[]⟩, .ic 65 (.p 1 0)]) h := fun hg h hh => h2 hg _ _ (gone hh rfl (List.getElem?_eq_some_iff.1 hh).1 rfl)
  have hw : IntKind.wrap .i64 r = r := i64w (by omega) (by omega)
  refine ⟨_, ⟨rfl⟩, ⟨.inl rfl⟩, fun g1 => ⟨_, ⟨rfl⟩, ⟨.inl rfl⟩, fun g2 => ⟨_, ⟨rfl⟩, ⟨.inr (.inr rfl)⟩, fun _ => ?_, fun g => absurd (good4 (by rw [hw]; exact hr)) g.out⟩, fun g => bad (fun hg => g.out (good1.2 hg.2)) _ rfl⟩, fun g => bad (fun hg => g.out (good1.2 hg.1)) _ rfl⟩
  have k1 := good1.1 g1.out
  have c1 := good1.1 g2.out
  have oO := Ov_range [Lv k 1, Lv c 1, ⟨#[0, 0]⟩, Lv r 4, d]
  have eO : Ov [Lv k 1, Lv c 1, ⟨#[0, 0]⟩, Lv r 4, d] = Nv ⟨#[]⟩ k c r d := by
    unfold Ov Nv
    rw [Lv1 k1, Lv1 c1, Lv4 hr, zz]
    simp [cat, textOf_list, B0]
  rw [hw]
  refine ⟨_, ⟨rfl⟩, [Lv k 1, Lv c 1, ⟨#[0, 0]⟩, Lv r 4, d], ⟨rfl⟩, ⟨rfl⟩, ⟨?_⟩, ⟨.inr (.inl rfl)⟩, fun _ => ?_, fun g => absurd (good2 oO) g.out⟩
  · have hz : (⟨#[0, 0]⟩ : ByteArray).size = 2 := rfl
    have hc := cat_len (k := 100000) (l := [Lv k 1, Lv c 1, ⟨#[0, 0]⟩, Lv r 4, d]) (by
      simp only [List.mem_cons, List.not_mem_nil, or_false, forall_eq_or_imp, forall_eq, Lv_size, hz]
      refine ⟨by decide, by decide, by decide, by decide, hd'⟩)
    exact ⟨by simp only [List.length_cons, List.length_nil] at hc; omega, by simp⟩
  · rw [eO]
    refine ⟨⟨by simp only [Lv_size]; decide⟩, ⟨by simp only [ByteArray.size_append, Lv_size]; decide⟩, ⟨by simp only [ByteArray.size_append, Lv_size]; decide⟩, _, ⟨rfl⟩, ⟨by simp only [ByteArray.size_append, Lv_size]; simp; omega⟩, ?_⟩
    have e : Lv k 1 ++ Lv c 1 ++ Lv (Nv ⟨#[]⟩ k c r d) 2 ++ Lv r 4 ++ d = BB ⟨#[]⟩ k c r d := by
      unfold BB
      rw [Lv1 k1, Lv1 c1, Lv4 hr, Lv2 (Nv_range _ _ _ _ _), textOf_append, textOf_append, textOf_append]
      rfl
    rw [e]
    exact h1 ⟨k1, c1⟩ _
theorem run20 {k c r : Int} {d p : ByteArray} (hm : okMs r d p) {R : AV → Hp → Prop} (h1 : goodM k c → ∀ h, R (.tu [.s (BB p k c r d), .ni]) h) (h2 : ¬ goodM k c → ∀ v h, Wk 0 ⟨[v], h⟩ ⟨[eeBy 0], [.cells [.i .i64 13, .i .i64 0] true]⟩ → R v h) :
    Holds (wpFn P (T14 goodBig Lv Ov) noW noL 0 Go.Proofs.Try.f20 [.ag [.i .i64 k, .i .i64 c, .i .u32 r, .s d], .s p] [] R) := by
  refine ⟨?_⟩
  rw [vc20]
  obtain ⟨hr, hd', hp'⟩ := hm
  have bad : ¬ goodM k c → ∀ h : Hp, h[1]? = some (.cells [.i .i64 13, .i .i64 0] true) → R (.tu [.s ⟨#[]⟩, .ic 65 (.p 1 0)]) h := fun hg h hh => h2 hg _ _ (gone hh rfl (List.getElem?_eq_some_iff.1 hh).1 rfl)
  have hw : IntKind.wrap .i64 r = r := i64w (by omega) (by omega)
  refine ⟨_, ⟨rfl⟩, ⟨.inl rfl⟩, fun g1 => ⟨_, ⟨rfl⟩, ⟨.inl rfl⟩, fun g2 => ⟨_, ⟨rfl⟩, ⟨.inr (.inr rfl)⟩, fun _ => ?_, fun g => absurd (good4 (by rw [hw]; exact hr)) g.out⟩, fun g => bad (fun hg => g.out (good1.2 hg.2)) _ rfl⟩, fun g => bad (fun hg => g.out (good1.2 hg.1)) _ rfl⟩
  have k1 := good1.1 g1.out
  have c1 := good1.1 g2.out
  have oO := Ov_range [p, Lv k 1, Lv c 1, ⟨#[0, 0]⟩, Lv r 4, d]
  have eO : Ov [p, Lv k 1, Lv c 1, ⟨#[0, 0]⟩, Lv r 4, d] = Nv p k c r d := by
    unfold Ov Nv
    rw [Lv1 k1, Lv1 c1, Lv4 hr, zz]
    simp [cat, textOf_list, B0]
  rw [hw]
  refine ⟨_, ⟨rfl⟩, [p, Lv k 1, Lv c 1, ⟨#[0, 0]⟩, Lv r 4, d], ⟨rfl⟩, ⟨rfl⟩, ⟨?_⟩, ⟨.inr (.inl rfl)⟩, fun _ => ?_, fun g => absurd (good2 oO) g.out⟩
  · have hz : (⟨#[0, 0]⟩ : ByteArray).size = 2 := rfl
    have hc := cat_len (k := 100000) (l := [p, Lv k 1, Lv c 1, ⟨#[0, 0]⟩, Lv r 4, d]) (by
      simp only [List.mem_cons, List.not_mem_nil, or_false, forall_eq_or_imp, forall_eq, Lv_size, hz]
      refine ⟨hp', by decide, by decide, by decide, by decide, hd'⟩)
    exact ⟨by simp only [List.length_cons, List.length_nil] at hc; omega, by simp⟩
  · rw [eO]
    refine ⟨⟨by simp only [Lv_size]; decide⟩, ⟨by simp only [ByteArray.size_append, Lv_size]; decide⟩, ⟨by simp only [ByteArray.size_append, Lv_size]; decide⟩, _, ⟨rfl⟩, ⟨by simp only [ByteArray.size_append, Lv_size]; simp; omega⟩, ?_⟩
    have e : Lv k 1 ++ Lv c 1 ++ Lv (Nv p k c r d) 2 ++ Lv r 4 ++ d = BB p k c r d := by
      unfold BB
      rw [Lv1 k1, Lv1 c1, Lv4 hr, Lv2 (Nv_range _ _ _ _ _), textOf_append, textOf_append, textOf_append]
      rfl
    rw [e]
    exact h1 ⟨k1, c1⟩ _
abbrev IcHd := hd
theorem bytesAV_len (d : ByteArray) : (bytesAV d).length = d.size := by unfold bytesAV; rw [List.length_map, Array.length_toList]; rfl
theorem ints_len (d : ByteArray) : (ints d).length = d.size := by unfold ints; rw [List.length_map, Array.length_toList]; rfl
theorem bytes_row (k c r : Int) (d : ByteArray) : (B0 k c r).map (AV.i .u8) ++ bytesAV d = (B0 k c r ++ ints d).map (AV.i .u8) := by rw [bytesAV_eq, List.map_append]; rfl
theorem hi8 {n : Int} (h : 0 ≤ n ∧ n ≤ 65535) : IntKind.wrap .u8 (IntKind.wrap .i64 (Int.tdiv n 256)) = n / 256 := by
  rw [Int.tdiv_eq_ediv_of_nonneg h.1, i64w (by omega) (by omega), wrap8]; omega
theorem lo8 {n : Int} (h : 0 ≤ n ∧ n ≤ 65535) : IntKind.wrap .u8 (Int.tmod n 256) = n % 256 := by
  rw [Int.tmod_eq_emod_of_nonneg h.1, wrap8]; omega
theorem runb15 {p : ByteArray} {k c r : Int} {d : ByteArray} (hm : okMs r d p) {R : AV → Hp → Prop} (h1 : goodM k c → ∀ h, R (.tu [.s (BB p k c r d), .i .i64 0]) h) (h2 : ¬ goodM k c → ∀ h, R (.tu [.s ⟨#[]⟩, .i .i64 13]) h) :
    wpFn P (T15 Qv Wv) noW (headB p k c r d) 0 Go.Proofs.Try.f15 [.s p, .ag [.i .i64 k, .i .i64 c, .i .u32 r, .s d]] [] R := by
  rw [vcb15]
  obtain ⟨hr, hd', hp'⟩ := hm
  refine ⟨_, ⟨rfl⟩, br_intro (fun h => h2 ?_ _) (fun ha => ⟨_, ⟨rfl⟩, br_intro (fun h => h2 ?_ _) (fun hb => ⟨_, ⟨rfl⟩, br_intro (fun h => h2 ?_ _) (fun hc => ⟨_, ⟨rfl⟩, br_intro (fun h => h2 ?_ _) (fun hd => ?_)⟩)⟩)⟩)⟩
  · have h : k < 0 := by simpa using h
    unfold goodM; omega
  · have h : k > 255 := by simpa using h
    unfold goodM; omega
  · have h : c < 0 := by simpa using h
    unfold goodM; omega
  · have h : c > 255 := by simpa using h
    unfold goodM; omega
  have ha : ¬ k < 0 := by simpa using ha
  have hb : ¬ k > 255 := by simpa using hb
  have hc : ¬ c < 0 := by simpa using hc
  have hd : ¬ c > 255 := by simpa using hd
  have hg : goodM k c := ⟨by omega, by omega⟩
  have hN := Nv_range p k c r d
  have hq := Qv_Nv p k c r d
  have zB : (B0 k c r).length = 8 := rfl
  refine ⟨fun a => a = (B0 k c r).map (.i .u8), ⟨_, ⟨rfl⟩, _, ⟨rfl⟩, _, ⟨rfl⟩, _, ⟨rfl⟩, _, ⟨rfl⟩, _, ⟨rfl⟩, Wk.refl _ _, ?_⟩, ?_⟩
  · have e24 : ((2 : Int) ^ min (Int.toNat (24 : Int)) (IntKind.bits IntKind.u32)) = 16777216 := by decide
    have e16 : ((2 : Int) ^ min (Int.toNat (16 : Int)) (IntKind.bits IntKind.u32)) = 65536 := by decide
    have e8 : ((2 : Int) ^ min (Int.toNat (8 : Int)) (IntKind.bits IntKind.u32)) = 256 := by decide
    rw [e24, e16, e8, Int.fdiv_eq_ediv_of_nonneg _ (by decide), Int.fdiv_eq_ediv_of_nonneg _ (by decide), Int.fdiv_eq_ediv_of_nonneg _ (by decide)]
    rw [wrap8, wrap8, wrap8, wrap8, wrap8, wrap8, show k % 256 = k by omega, show c % 256 = c by omega, show r / 16777216 % 256 = r / 16777216 by omega]
    rfl
  rintro a rfl
  refine ⟨_, ⟨rfl⟩, br_intro (fun h0 => ?_) (fun h0 => ?_)⟩
  · have h0 : d.size = 0 := by simpa using h0
    have hi : ints d = [] := List.length_eq_zero_iff.1 (by rw [ints_len]; exact h0)
    have hde : d = ⟨#[]⟩ := by rw [← textOf_ints d, hi]; rfl
    rw [hi, List.append_nil] at hq
    refine ⟨⟨by simp [zB]⟩, B0 k c r, ⟨numsOf_map (B0 k c r)⟩, ⟨by rw [textOf_size, zB]; omega⟩, ⟨show _ ≤ _ by rw [ByteArray.size_append, textOf_size, zB]; omega⟩, ⟨by decide⟩, ⟨by simp [zB]⟩, ⟨by decide⟩, ⟨by rw [setAll_length]; simp [zB]⟩, ⟨by rw [setAll_length, setAll_length]; simp [zB]⟩, ?_⟩
    rw [hq, hi8 hN, lo8 hN]
    refine ⟨IcHd k c r (Nv p k c r d), ⟨numsOf_map (IcHd k c r (Nv p k c r d))⟩, ?_⟩
    have e : textOf (IcHd k c r (Nv p k c r d)) = BB p k c r d := by
      unfold BB
      apply bytes_ext
      rw [add_list, show d.data.toList = [] by rw [hde], List.append_nil]
    rw [e]
    exact h1 hg _
  · have h0 : d.size ≠ 0 := by simpa using h0
    refine ⟨⟨by show (8 + d.size) * 1 ≤ _; omega, by simp [zB]⟩, br_intro (fun hx => ?_) (fun _ => ?_)⟩
    · have hx : 8 + d.size ≤ 8 := by simpa using hx
      omega
    have ht8 : List.take 8 ((B0 k c r).map (AV.i .u8)) = (B0 k c r).map (AV.i .u8) := rfl
    have hlen : ((B0 k c r).map (AV.i .u8) ++ bytesAV d).length = 8 + d.size := by rw [List.length_append, List.length_map, zB, bytesAV_len]
    rw [ht8]
    refine ⟨⟨by rw [hlen]; omega⟩, B0 k c r ++ ints d, ⟨?_⟩, ⟨by rw [textOf_size, List.length_append, zB, ints_len]; omega⟩, ⟨show _ ≤ _ by rw [ByteArray.size_append, textOf_size, List.length_append, zB, ints_len]; omega⟩, ⟨by omega⟩, ⟨by rw [hlen]; omega⟩, ⟨by omega⟩, ⟨by rw [setAll_length, hlen]; omega⟩, ⟨by rw [setAll_length, setAll_length, hlen]; omega⟩, ?_⟩
    · rw [bytes_row, List.drop_zero, List.take_of_length_le (by rw [List.length_map, List.length_append, zB, ints_len]; exact Nat.le_refl _), numsOf_map]
    rw [hq, hi8 hN, lo8 hN]
    have hs : setAll (setAll ((B0 k c r).map (AV.i .u8) ++ bytesAV d) 2 [AV.i .u8 (Nv p k c r d / 256)]) 3 [AV.i .u8 (Nv p k c r d % 256)] = (IcHd k c r (Nv p k c r d) ++ ints d).map (AV.i .u8) := by
      rw [List.map_append, ← show bytesAV d = (ints d).map (AV.i .u8) from bytesAV_eq d]; rfl
    refine ⟨IcHd k c r (Nv p k c r d) ++ ints d, ⟨?_⟩, ?_⟩
    · rw [hs, List.drop_zero, List.take_of_length_le (by rw [List.length_map, List.length_append, ints_len]; exact Nat.le_refl _), numsOf_map]
    · rw [← textOf_append, textOf_ints]
      exact h1 hg _
theorem runb21 {p : ByteArray} {k c r : Int} {d : ByteArray} (hm : okMs r d p) {R : AV → Hp → Prop} (h1 : goodM k c → ∀ h, R (.tu [.s (BB p k c r d), .i .i64 0]) h) (h2 : ¬ goodM k c → ∀ h, R (.tu [.s ⟨#[]⟩, .i .i64 13]) h) :
    wpFn P (T15 Qv Wv) noW (headB p k c r d) 0 Go.Proofs.Try.f21 [.s p, .ag [.i .i64 k, .i .i64 c, .i .u32 r, .s d]] [] R := by
  rw [vcb21]
  obtain ⟨hr, hd', hp'⟩ := hm
  refine ⟨_, ⟨rfl⟩, br_intro (fun h => h2 ?_ _) (fun ha => ⟨_, ⟨rfl⟩, br_intro (fun h => h2 ?_ _) (fun hb => ⟨_, ⟨rfl⟩, br_intro (fun h => h2 ?_ _) (fun hc => ⟨_, ⟨rfl⟩, br_intro (fun h => h2 ?_ _) (fun hd => ?_)⟩)⟩)⟩)⟩
  · have h : k < 0 := by simpa using h
    unfold goodM; omega
  · have h : k > 255 := by simpa using h
    unfold goodM; omega
  · have h : c < 0 := by simpa using h
    unfold goodM; omega
  · have h : c > 255 := by simpa using h
    unfold goodM; omega
  have ha : ¬ k < 0 := by simpa using ha
  have hb : ¬ k > 255 := by simpa using hb
  have hc : ¬ c < 0 := by simpa using hc
  have hd : ¬ c > 255 := by simpa using hd
  have hg : goodM k c := ⟨by omega, by omega⟩
  have hN := Nv_range p k c r d
  have hq := Qv_Nv p k c r d
  have zB : (B0 k c r).length = 8 := rfl
  refine ⟨fun a => a = (B0 k c r).map (.i .u8), ⟨_, ⟨rfl⟩, _, ⟨rfl⟩, _, ⟨rfl⟩, _, ⟨rfl⟩, _, ⟨rfl⟩, _, ⟨rfl⟩, Wk.refl _ _, ?_⟩, ?_⟩
  · have e24 : ((2 : Int) ^ min (Int.toNat (24 : Int)) (IntKind.bits IntKind.u32)) = 16777216 := by decide
    have e16 : ((2 : Int) ^ min (Int.toNat (16 : Int)) (IntKind.bits IntKind.u32)) = 65536 := by decide
    have e8 : ((2 : Int) ^ min (Int.toNat (8 : Int)) (IntKind.bits IntKind.u32)) = 256 := by decide
    rw [e24, e16, e8, Int.fdiv_eq_ediv_of_nonneg _ (by decide), Int.fdiv_eq_ediv_of_nonneg _ (by decide), Int.fdiv_eq_ediv_of_nonneg _ (by decide)]
    rw [wrap8, wrap8, wrap8, wrap8, wrap8, wrap8, show k % 256 = k by omega, show c % 256 = c by omega, show r / 16777216 % 256 = r / 16777216 by omega]
    rfl
  rintro a rfl
  refine ⟨_, ⟨rfl⟩, br_intro (fun h0 => ?_) (fun h0 => ?_)⟩
  · have h0 : d.size = 0 := by simpa using h0
    have hi : ints d = [] := List.length_eq_zero_iff.1 (by rw [ints_len]; exact h0)
    have hde : d = ⟨#[]⟩ := by rw [← textOf_ints d, hi]; rfl
    rw [hi, List.append_nil] at hq
    refine ⟨⟨by simp [zB]⟩, B0 k c r, ⟨numsOf_map (B0 k c r)⟩, ⟨by rw [textOf_size, zB]; omega⟩, ⟨show _ ≤ _ by rw [ByteArray.size_append, textOf_size, zB]; omega⟩, ⟨by decide⟩, ⟨by simp [zB]⟩, ⟨by decide⟩, ⟨by rw [setAll_length]; simp [zB]⟩, ⟨by rw [setAll_length, setAll_length]; simp [zB]⟩, ?_⟩
    rw [hq, hi8 hN, lo8 hN]
    refine ⟨IcHd k c r (Nv p k c r d), ⟨numsOf_map (IcHd k c r (Nv p k c r d))⟩, ?_⟩
    have e : textOf (IcHd k c r (Nv p k c r d)) = BB p k c r d := by
      unfold BB
      apply bytes_ext
      rw [add_list, show d.data.toList = [] by rw [hde], List.append_nil]
    rw [e]
    exact h1 hg _
  · have h0 : d.size ≠ 0 := by simpa using h0
    refine ⟨⟨by show (8 + d.size) * 1 ≤ _; omega, by simp [zB]⟩, br_intro (fun hx => ?_) (fun _ => ?_)⟩
    · have hx : 8 + d.size ≤ 8 := by simpa using hx
      omega
    have ht8 : List.take 8 ((B0 k c r).map (AV.i .u8)) = (B0 k c r).map (AV.i .u8) := rfl
    have hlen : ((B0 k c r).map (AV.i .u8) ++ bytesAV d).length = 8 + d.size := by rw [List.length_append, List.length_map, zB, bytesAV_len]
    rw [ht8]
    refine ⟨⟨by rw [hlen]; omega⟩, B0 k c r ++ ints d, ⟨?_⟩, ⟨by rw [textOf_size, List.length_append, zB, ints_len]; omega⟩, ⟨show _ ≤ _ by rw [ByteArray.size_append, textOf_size, List.length_append, zB, ints_len]; omega⟩, ⟨by omega⟩, ⟨by rw [hlen]; omega⟩, ⟨by omega⟩, ⟨by rw [setAll_length, hlen]; omega⟩, ⟨by rw [setAll_length, setAll_length, hlen]; omega⟩, ?_⟩
    · rw [bytes_row, List.drop_zero, List.take_of_length_le (by rw [List.length_map, List.length_append, zB, ints_len]; exact Nat.le_refl _), numsOf_map]
    rw [hq, hi8 hN, lo8 hN]
    have hs : setAll (setAll ((B0 k c r).map (AV.i .u8) ++ bytesAV d) 2 [AV.i .u8 (Nv p k c r d / 256)]) 3 [AV.i .u8 (Nv p k c r d % 256)] = (IcHd k c r (Nv p k c r d) ++ ints d).map (AV.i .u8) := by
      rw [List.map_append, ← show bytesAV d = (ints d).map (AV.i .u8) from bytesAV_eq d]; rfl
    refine ⟨IcHd k c r (Nv p k c r d) ++ ints d, ⟨?_⟩, ?_⟩
    · rw [hs, List.drop_zero, List.take_of_length_le (by rw [List.length_map, List.length_append, ints_len]; exact Nat.le_refl _), numsOf_map]
    · rw [← textOf_append, textOf_ints]
      exact h1 hg _
/-! parsing -/
def bt (s : ByteArray) (i : Nat) : Int := ((s.data.toList.getD i 0).toNat : Int)
def gS (s p : ByteArray) : Prop := 8 ≤ s.size ∧ Qv (p ++ s) = 0
def oS (s p : ByteArray) : Prop := s.size ≤ 100000 ∧ p.size ≤ 100000
def K0 (s : ByteArray) : Int := bt s 0
def C0 (s : ByteArray) : Int := bt s 1
def R0 (s : ByteArray) : Int := V4 (s.extract 4 s.size)
def D0 (s : ByteArray) : ByteArray := s.extract 8 s.size
def Cd (s : ByteArray) : Int := if s.size < 8 then 7 else 9
def zeroM : List AV := [.i .i64 0, .i .i64 0, .i .u32 0, .s ⟨#[]⟩]
def msgP (K0 C0 R0 : ByteArray → Int) (D0 : ByteArray → ByteArray) (s : ByteArray) : AV := .ag [.i .i64 (K0 s), .i .i64 (C0 s), .i .u32 (R0 s), .s (D0 s)]
def eePa (n : Nat) : AV := .tu [.ag zeroM, .ic 65 (.p n 0)]
theorem Qv_eq (x : ByteArray) : Qv x = 65535 - F (ws false true x.data.toList) := by
  unfold Qv Wv; rw [isum_words _ (padl_even _), ws_pad]
theorem eight {s : ByteArray} (h : 8 ≤ s.size) : ∃ b0 b1 b2 b3 b4 b5 b6 b7 rest, s.data.toList = b0 :: b1 :: b2 :: b3 :: b4 :: b5 :: b6 :: b7 :: rest := by
  have hl : s.data.toList.length = s.size := by rw [Array.length_toList]; rfl
  rw [← hl] at h
  match s.data.toList, h with
  | b0 :: b1 :: b2 :: b3 :: b4 :: b5 :: b6 :: b7 :: rest, _ => exact ⟨b0, b1, b2, b3, b4, b5, b6, b7, rest, rfl⟩
theorem tail_list (s : ByteArray) (n : Nat) : (s.extract n s.size).data.toList = s.data.toList.drop n := by
  rw [ByteArray.data_extract, Array.toList_extract]
  simp only [List.extract_eq_take_drop]
  exact List.take_of_length_le (by rw [List.length_drop, Array.length_toList]; exact Nat.le_refl _)
theorem tail_size {s : ByteArray} {n : Nat} (h : n ≤ s.size) : (s.extract n s.size).size = s.size - n := by
  have : (s.extract n s.size).size = (s.extract n s.size).data.toList.length := by rw [Array.length_toList]; rfl
  rw [this, tail_list, List.length_drop, Array.length_toList]; rfl
theorem R0_eq {s : ByteArray} {b0 b1 b2 b3 b4 b5 b6 b7 : UInt8} {rest : List UInt8} (h : s.data.toList = b0 :: b1 :: b2 :: b3 :: b4 :: b5 :: b6 :: b7 :: rest) : R0 s = (((b4.toNat : Int) * 256 + b5.toNat) * 256 + b6.toNat) * 256 + b7.toNat := by
  unfold R0 V4
  rw [tail_list, h]
  simp [beV]
theorem R0_range {s : ByteArray} (h : 8 ≤ s.size) : 0 ≤ R0 s ∧ R0 s ≤ 4294967295 := by
  obtain ⟨b0, b1, b2, b3, b4, b5, b6, b7, rest, e⟩ := eight h
  rw [R0_eq e]
  have h4 := b4.toNat_lt; have h5 := b5.toNat_lt; have h6 := b6.toNat_lt; have h7 := b7.toNat_lt
  omega
theorem run16 {s : ByteArray} (ho : oS s ⟨#[]⟩) {R : AV → Hp → Prop} (h1 : gS s ⟨#[]⟩ → ∀ h, R (.tu [msgP K0 C0 R0 D0 s, .ni]) h) (h2 : ¬ gS s ⟨#[]⟩ → ∀ v h, Wk 0 ⟨[v], h⟩ ⟨[eePa 0], [.cells [.i .i64 (Cd s), .i .i64 0] true]⟩ → R v h) :
    Holds (wpFn P (T16 Rv V4) noW noL 0 Go.Proofs.Try.f16 [.s s] [] R) := by
  refine ⟨?_⟩
  rw [vc16]
  obtain ⟨o1, o2⟩ := ho
  have hO : Ov [s] = Qv (⟨#[]⟩ ++ s) := by rw [Qv_eq]; unfold Ov; congr 3; simp [cat]
  have hok : okL [s] := by
    have hc := cat_len (k := 100000) (l := [s]) (by
      simp only [List.mem_cons, List.not_mem_nil, or_false, forall_eq_or_imp, forall_eq]
      exact o1)
    exact ⟨by simp only [List.length_cons, List.length_nil] at hc; omega, by simp⟩
  refine br_intro (fun h => ⟨⟨by simp⟩, ?_⟩) (fun h => ⟨[s], ⟨rfl⟩, ⟨rfl⟩, ⟨hok⟩, br_intro (fun hs => ⟨⟨by simp⟩, ?_⟩) (fun hs => ?_)⟩)
  · have h : (s.size : Int) < 8 := by simpa using h
    have hc : Cd s = 7 := by unfold Cd; rw [if_pos (by omega)]
    rw [hc] at h2
    exact h2 (fun g => by have := g.1; omega) _ _ (gone (j := 1) rfl rfl (by simp) rfl)
  · have h : ¬ (s.size : Int) < 8 := by simpa using h
    have hc : Cd s = 9 := by unfold Cd; rw [if_neg (by omega)]
    rw [hc] at h2
    refine h2 (fun g => ?_) _ _ (gone (j := 2) rfl rfl (by simp) rfl)
    have : Rv [s] = true := by unfold Rv; rw [hO, g.2]; rfl
    rw [this] at hs; simp at hs
  · have h : ¬ (s.size : Int) < 8 := by simpa using h
    have h8 : 8 ≤ s.size := by omega
    have hR : Rv [s] = true := by simpa using hs
    have hq : Qv (⟨#[]⟩ ++ s) = 0 := by unfold Rv at hR; rw [hO] at hR; simpa using hR
    obtain ⟨b0, b1, b2, b3, b4, b5, b6, b7, rest, e⟩ := eight h8
    have z4 : (s.extract (Int.toNat 4) s.size).size = s.size - 4 := tail_size (n := 4) (by omega)
    have g0 : s[0]? = some b0 := by
      have := byte_at (s := s) rfl (i := 0) (by rw [e]; simp)
      rw [this]; simp [e]
    have g1 : s[1]? = some b1 := by
      have := byte_at (s := s) rfl (i := 1) (by rw [e]; simp)
      rw [this]; simp [e]
    have l0 := b0.toNat_lt
    have l1 := b1.toNat_lt
    have hr := R0_range h8
    refine ⟨⟨by omega⟩, ⟨rfl⟩, ⟨by rw [z4]; omega⟩, ⟨by decide⟩, b0, ⟨g0⟩, ⟨by decide⟩, b1, ⟨g1⟩, ⟨by omega⟩, ⟨by simp⟩, ?_⟩
    have e0 : IntKind.wrap .i64 (b0.toNat : Int) = K0 s := by rw [i64w (by omega) (by omega)]; unfold K0 bt; rw [e]; rfl
    have e1 : IntKind.wrap .i64 (b1.toNat : Int) = C0 s := by rw [i64w (by omega) (by omega)]; unfold C0 bt; rw [e]; rfl
    have e2 : IntKind.wrap .u32 (V4 (s.extract (Int.toNat 4) s.size)) = R0 s := by
      show IntKind.wrap .u32 (R0 s) = R0 s
      have : IntKind.wrap .u32 (R0 s) = R0 s % 4294967296 := by simp [IntKind.wrap, IntKind.bits, IntKind.signed]
      rw [this]; omega
    rw [e0, e1, e2]
    exact h1 ⟨h8, hq⟩ _
theorem run22 {s p : ByteArray} (ho : oS s p) {R : AV → Hp → Prop} (h1 : gS s p → ∀ h, R (.tu [msgP K0 C0 R0 D0 s, .ni]) h) (h2 : ¬ gS s p → ∀ v h, Wk 0 ⟨[v], h⟩ ⟨[eePa 0], [.cells [.i .i64 (Cd s), .i .i64 0] true]⟩ → R v h) :
    Holds (wpFn P (T166 Rv V4) noW noL 0 Go.Proofs.Try.f22 [.s s, .s p] [] R) := by
  refine ⟨?_⟩
  rw [vc22]
  obtain ⟨o1, o2⟩ := ho
  have hO : Ov [p, s] = Qv (p ++ s) := by rw [Qv_eq]; unfold Ov; congr 3; simp [cat]
  have hok : okL [p, s] := by
    have hc := cat_len (k := 100000) (l := [p, s]) (by
      simp only [List.mem_cons, List.not_mem_nil, or_false, forall_eq_or_imp, forall_eq]
      exact ⟨o2, o1⟩)
    exact ⟨by simp only [List.length_cons, List.length_nil] at hc; omega, by simp⟩
  refine br_intro (fun h => ⟨⟨by simp⟩, ?_⟩) (fun h => ⟨[p, s], ⟨rfl⟩, ⟨rfl⟩, ⟨hok⟩, br_intro (fun hs => ⟨⟨by simp⟩, ?_⟩) (fun hs => ?_)⟩)
  · have h : (s.size : Int) < 8 := by simpa using h
    have hc : Cd s = 7 := by unfold Cd; rw [if_pos (by omega)]
    rw [hc] at h2
    exact h2 (fun g => by have := g.1; omega) _ _ (gone (j := 1) rfl rfl (by simp) rfl)
  · have h : ¬ (s.size : Int) < 8 := by simpa using h
    have hc : Cd s = 9 := by unfold Cd; rw [if_neg (by omega)]
    rw [hc] at h2
    refine h2 (fun g => ?_) _ _ (gone (j := 2) rfl rfl (by simp) rfl)
    have : Rv [p, s] = true := by unfold Rv; rw [hO, g.2]; rfl
    rw [this] at hs; simp at hs
  · have h : ¬ (s.size : Int) < 8 := by simpa using h
    have h8 : 8 ≤ s.size := by omega
    have hR : Rv [p, s] = true := by simpa using hs
    have hq : Qv (p ++ s) = 0 := by unfold Rv at hR; rw [hO] at hR; simpa using hR
    obtain ⟨b0, b1, b2, b3, b4, b5, b6, b7, rest, e⟩ := eight h8
    have z4 : (s.extract (Int.toNat 4) s.size).size = s.size - 4 := tail_size (n := 4) (by omega)
    have g0 : s[0]? = some b0 := by
      have := byte_at (s := s) rfl (i := 0) (by rw [e]; simp)
      rw [this]; simp [e]
    have g1 : s[1]? = some b1 := by
      have := byte_at (s := s) rfl (i := 1) (by rw [e]; simp)
      rw [this]; simp [e]
    have l0 := b0.toNat_lt
    have l1 := b1.toNat_lt
    have hr := R0_range h8
    refine ⟨⟨by omega⟩, ⟨rfl⟩, ⟨by rw [z4]; omega⟩, ⟨by decide⟩, b0, ⟨g0⟩, ⟨by decide⟩, b1, ⟨g1⟩, ⟨by omega⟩, ⟨by simp⟩, ?_⟩
    have e0 : IntKind.wrap .i64 (b0.toNat : Int) = K0 s := by rw [i64w (by omega) (by omega)]; unfold K0 bt; rw [e]; rfl
    have e1 : IntKind.wrap .i64 (b1.toNat : Int) = C0 s := by rw [i64w (by omega) (by omega)]; unfold C0 bt; rw [e]; rfl
    have e2 : IntKind.wrap .u32 (V4 (s.extract (Int.toNat 4) s.size)) = R0 s := by
      show IntKind.wrap .u32 (R0 s) = R0 s
      have : IntKind.wrap .u32 (R0 s) = R0 s % 4294967296 := by simp [IntKind.wrap, IntKind.bits, IntKind.signed]
      rw [this]; omega
    rw [e0, e1, e2]
    exact h1 ⟨h8, hq⟩ _
theorem runp17 {s p : ByteArray} (ho : oS s p) {R : AV → Hp → Prop} (h1 : gS s p → ∀ h, R (.tu [msgP K0 C0 R0 D0 s, .i .i64 0]) h) (h2 : ¬ gS s p → ∀ h, R (.tu [.ag zeroM, .i .i64 (Cd s)]) h) :
    Holds (wpFn P (T15 Qv Wv) noW noL 0 Go.Proofs.Try.f17 [.s p, .s s] [] R) := by
  refine ⟨?_⟩
  rw [vcp17]
  obtain ⟨o1, o2⟩ := ho
  refine br_intro (fun h => ⟨⟨by simp⟩, ?_⟩) (fun h => ⟨⟨by omega⟩, ⟨show _ ≤ _ by rw [ByteArray.size_append]; omega⟩, br_intro (fun hs => ⟨⟨by simp⟩, ?_⟩) (fun hs => ?_)⟩)
  · have h : (s.size : Int) < 8 := by simpa using h
    have hc : Cd s = 7 := by unfold Cd; rw [if_pos (by omega)]
    rw [hc] at h2
    exact h2 (fun g => by have := g.1; omega) _
  · have h : ¬ (s.size : Int) < 8 := by simpa using h
    have hc : Cd s = 9 := by unfold Cd; rw [if_neg (by omega)]
    rw [hc] at h2
    exact h2 (fun g => by rw [g.2] at hs; simp at hs) _
  · have h : ¬ (s.size : Int) < 8 := by simpa using h
    have h8 : 8 ≤ s.size := by omega
    have hq : Qv (p ++ s) = 0 := by simpa using hs
    obtain ⟨b0, b1, b2, b3, b4, b5, b6, b7, rest, e⟩ := eight h8
    have hx : (s.extract 0 (Int.toNat 8)).data.toList = [b0, b1, b2, b3, b4, b5, b6, b7] := by
      show (s.extract 0 8).data.toList = _
      rw [take_list, e]; rfl
    have hxs : (s.extract 0 (Int.toNat 8)).size = 8 := by
      have : (s.extract 0 (Int.toNat 8)).size = (s.extract 0 (Int.toNat 8)).data.toList.length := by rw [Array.length_toList]; rfl
      rw [this, hx]; rfl
    have hw : Wv (s.extract 0 (Int.toNat 8)) = [(b0.toNat : Int) * 256 + b1.toNat, (b2.toNat : Int) * 256 + b3.toNat, (b4.toNat : Int) * 256 + b5.toNat, (b6.toNat : Int) * 256 + b7.toNat] := by
      unfold Wv padl; rw [hx, if_neg (by simp)]; rfl
    have l0 := b0.toNat_lt; have l1 := b1.toNat_lt; have l4 := b4.toNat_lt; have l5 := b5.toNat_lt; have l6 := b6.toNat_lt; have l7 := b7.toNat_lt
    rw [hw, hxs]
    refine ⟨⟨by omega⟩, ⟨by omega⟩, fun g => absurd g.out (by simp), fun _ => ⟨⟨by simp⟩, _, ⟨rfl⟩, ⟨by simp⟩, _, ⟨rfl⟩, ⟨by simp⟩, _, ⟨rfl⟩, ⟨by simp⟩, _, ⟨rfl⟩, ⟨by omega⟩, ⟨by simp⟩, ?_⟩⟩
    have u32 : ∀ x : Int, IntKind.wrap .u32 x = x % 4294967296 := fun x => by simp [IntKind.wrap, IntKind.bits, IntKind.signed]
    have e0 : IntKind.wrap .i64 (Int.tdiv ((b0.toNat : Int) * 256 + b1.toNat) 256) = K0 s := by
      rw [Int.tdiv_eq_ediv_of_nonneg (by omega), i64w (by omega) (by omega)]; unfold K0 bt; rw [e]
      show _ = (b0.toNat : Int)
      omega
    have e1 : Int.tmod ((b0.toNat : Int) * 256 + b1.toNat) 256 = C0 s := by
      rw [Int.tmod_eq_emod_of_nonneg (by omega)]; unfold C0 bt; rw [e]
      show _ = (b1.toNat : Int)
      omega
    have e2 : IntKind.wrap .u32 (IntKind.wrap .u32 (IntKind.wrap .u32 ((b4.toNat : Int) * 256 + b5.toNat) * 65536) + IntKind.wrap .u32 ((b6.toNat : Int) * 256 + b7.toNat)) = R0 s := by
      rw [R0_eq e, u32, u32, u32, u32]; omega
    rw [e0, e1, e2]
    exact h1 ⟨h8, hq⟩ _
theorem runp23 {s p : ByteArray} (ho : oS s p) {R : AV → Hp → Prop} (h1 : gS s p → ∀ h, R (.tu [msgP K0 C0 R0 D0 s, .i .i64 0]) h) (h2 : ¬ gS s p → ∀ h, R (.tu [.ag zeroM, .i .i64 (Cd s)]) h) :
    Holds (wpFn P (T15 Qv Wv) noW noL 0 Go.Proofs.Try.f23 [.s p, .s s] [] R) := by
  refine ⟨?_⟩
  rw [vcp23]
  obtain ⟨o1, o2⟩ := ho
  refine br_intro (fun h => ⟨⟨by simp⟩, ?_⟩) (fun h => ⟨⟨by omega⟩, ⟨show _ ≤ _ by rw [ByteArray.size_append]; omega⟩, br_intro (fun hs => ⟨⟨by simp⟩, ?_⟩) (fun hs => ?_)⟩)
  · have h : (s.size : Int) < 8 := by simpa using h
    have hc : Cd s = 7 := by unfold Cd; rw [if_pos (by omega)]
    rw [hc] at h2
    exact h2 (fun g => by have := g.1; omega) _
  · have h : ¬ (s.size : Int) < 8 := by simpa using h
    have hc : Cd s = 9 := by unfold Cd; rw [if_neg (by omega)]
    rw [hc] at h2
    exact h2 (fun g => by rw [g.2] at hs; simp at hs) _
  · have h : ¬ (s.size : Int) < 8 := by simpa using h
    have h8 : 8 ≤ s.size := by omega
    have hq : Qv (p ++ s) = 0 := by simpa using hs
    obtain ⟨b0, b1, b2, b3, b4, b5, b6, b7, rest, e⟩ := eight h8
    have hx : (s.extract 0 (Int.toNat 8)).data.toList = [b0, b1, b2, b3, b4, b5, b6, b7] := by
      show (s.extract 0 8).data.toList = _
      rw [take_list, e]; rfl
    have hxs : (s.extract 0 (Int.toNat 8)).size = 8 := by
      have : (s.extract 0 (Int.toNat 8)).size = (s.extract 0 (Int.toNat 8)).data.toList.length := by rw [Array.length_toList]; rfl
      rw [this, hx]; rfl
    have hw : Wv (s.extract 0 (Int.toNat 8)) = [(b0.toNat : Int) * 256 + b1.toNat, (b2.toNat : Int) * 256 + b3.toNat, (b4.toNat : Int) * 256 + b5.toNat, (b6.toNat : Int) * 256 + b7.toNat] := by
      unfold Wv padl; rw [hx, if_neg (by simp)]; rfl
    have l0 := b0.toNat_lt; have l1 := b1.toNat_lt; have l4 := b4.toNat_lt; have l5 := b5.toNat_lt; have l6 := b6.toNat_lt; have l7 := b7.toNat_lt
    rw [hw, hxs]
    refine ⟨⟨by omega⟩, ⟨by omega⟩, fun g => absurd g.out (by simp), fun _ => ⟨⟨by simp⟩, _, ⟨rfl⟩, ⟨by simp⟩, _, ⟨rfl⟩, ⟨by simp⟩, _, ⟨rfl⟩, ⟨by simp⟩, _, ⟨rfl⟩, ⟨by omega⟩, ⟨by simp⟩, ?_⟩⟩
    have u32 : ∀ x : Int, IntKind.wrap .u32 x = x % 4294967296 := fun x => by simp [IntKind.wrap, IntKind.bits, IntKind.signed]
    have e0 : IntKind.wrap .i64 (Int.tdiv ((b0.toNat : Int) * 256 + b1.toNat) 256) = K0 s := by
      rw [Int.tdiv_eq_ediv_of_nonneg (by omega), i64w (by omega) (by omega)]; unfold K0 bt; rw [e]
      show _ = (b0.toNat : Int)
      omega
    have e1 : Int.tmod ((b0.toNat : Int) * 256 + b1.toNat) 256 = C0 s := by
      rw [Int.tmod_eq_emod_of_nonneg (by omega)]; unfold C0 bt; rw [e]
      show _ = (b1.toNat : Int)
      omega
    have e2 : IntKind.wrap .u32 (IntKind.wrap .u32 (IntKind.wrap .u32 ((b4.toNat : Int) * 256 + b5.toNat) * 65536) + IntKind.wrap .u32 ((b6.toNat : Int) * 256 + b7.toNat)) = R0 s := by
      rw [R0_eq e, u32, u32, u32, u32]; omega
    rw [e0, e1, e2]
    exact h1 ⟨h8, hq⟩ _
end Go.Proofs.Ythlehnnmkadigaa.SumRun
