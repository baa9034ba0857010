/- Events are read by the reference. -/
import Derived.Test.YtnfbgfmdjaodgaaScriptRb
set_option linter.unusedVariables false
set_option linter.unusedSimpArgs false
open Go Go.Proofs.Ytnfbgfmdjaodgaa.Eng Go.RowKit
namespace Go.Proofs.Ytnfbgfmdjaodgaa.ScriptRun
def head20 (s : ByteArray) (kd : Int) : Nat → Option Head := fun r => match r with
  | 8 => some (Head.one (Get.and (Get.int 1) (Get.and (Get.int 9) (Get.int 10))) fun q => ⟨[.s s, .i .i64 q.1, .bad, .bad, .p 0 0, .bad, .bad, .p 1 0, .sl 2 0 5 1 (some 5), .i .i64 q.2.1, .i .i64 q.2.2] ++ bads 89, [.cells [.i .u8 0, .i .i64 0, .s ⟨#[]⟩] true, .cells [.i .u8 kd, .i .i64 0, .s ⟨#[]⟩] true, .cells [.i .i64 0, .i .i64 3, .i .i64 3, .i .i64 4, .i .i64 2] true]⟩)
  | _ => none
theorem vc20 (s : ByteArray) (a kd : Int) (R : AV → Hp → Prop) : (wpFn P tnil noW (head20 s kd) 0 Go.Proofs.Try.f20 [.s s, .i .i64 a] [] R) = (Holds ((0 : Int) ≤ a) ∧ ∃ (b : UInt8), Holds (s[Int.toNat a]? = some b) ∧ Holds (3 ≤ List.length [AV.i .u8 0, AV.i .i64 0, AV.s (⟨#[]⟩ : ByteArray)]) ∧ ∃ (n : Int), Holds ([AV.i .u8 (↑(UInt8.toNat b) : Int), AV.i .i64 0, AV.s (⟨#[]⟩ : ByteArray)][0]? = some (AV.i .u8 n)) ∧ br (decide (n < (1 : Int))) (∃ (n : Int), ∃ (n_1 : Int), ∃ (s : ByteArray), Holds ([AV.i .u8 (↑(UInt8.toNat b) : Int), AV.i .i64 0, AV.s (⟨#[]⟩ : ByteArray)] = [AV.i .u8 n, AV.i .i64 n_1, AV.s s]) ∧ Holds (3 ≤ List.length [AV.i .u8 0, AV.i .i64 0, AV.s (⟨#[]⟩ : ByteArray)]) ∧ R (AV.tu [AV.ag [AV.i .u8 n, AV.i .i64 n_1, AV.s s], AV.i .i64 a, AV.bo false]) [Blk.cells [AV.i .u8 n, AV.i .i64 n_1, AV.s s] true, Blk.cells [AV.i .u8 (↑(UInt8.toNat b) : Int), AV.i .i64 0, AV.s (⟨#[]⟩ : ByteArray)] true, Blk.cells [AV.i .i64 0, AV.i .i64 3, AV.i .i64 3, AV.i .i64 4, AV.i .i64 2] true]) (∃ (n : Int), Holds ([AV.i .u8 (↑(UInt8.toNat b) : Int), AV.i .i64 0, AV.s (⟨#[]⟩ : ByteArray)][0]? = some (AV.i .u8 n)) ∧ br (decide (n > (4 : Int))) (∃ (n : Int), ∃ (n_1 : Int), ∃ (s : ByteArray), Holds ([AV.i .u8 (↑(UInt8.toNat b) : Int), AV.i .i64 0, AV.s (⟨#[]⟩ : ByteArray)] = [AV.i .u8 n, AV.i .i64 n_1, AV.s s]) ∧ Holds (3 ≤ List.length [AV.i .u8 0, AV.i .i64 0, AV.s (⟨#[]⟩ : ByteArray)]) ∧ R (AV.tu [AV.ag [AV.i .u8 n, AV.i .i64 n_1, AV.s s], AV.i .i64 a, AV.bo false]) [Blk.cells [AV.i .u8 n, AV.i .i64 n_1, AV.s s] true, Blk.cells [AV.i .u8 (↑(UInt8.toNat b) : Int), AV.i .i64 0, AV.s (⟨#[]⟩ : ByteArray)] true, Blk.cells [AV.i .i64 0, AV.i .i64 3, AV.i .i64 3, AV.i .i64 4, AV.i .i64 2] true]) (∃ (n : Int), Holds ([AV.i .u8 (↑(UInt8.toNat b) : Int), AV.i .i64 0, AV.s (⟨#[]⟩ : ByteArray)][0]? = some (AV.i .u8 n)) ∧ Holds ((0 : Int) ≤ n ∧ n < (↑(5 : Nat) : Int)) ∧ ∃ (n_1 : Int), Holds ([AV.i .i64 0, AV.i .i64 3, AV.i .i64 3, AV.i .i64 4, AV.i .i64 2][0 + Int.toNat n * 1]? = some (AV.i .i64 n_1)) ∧ br (decide (IntKind.wrap .i64 (IntKind.wrap .i64 (a + (1 : Int)) + n_1) > (↑(ByteArray.size s) : Int))) (∃ (n : Int), ∃ (n_2 : Int), ∃ (s : ByteArray), Holds ([AV.i .u8 (↑(UInt8.toNat b) : Int), AV.i .i64 0, AV.s (⟨#[]⟩ : ByteArray)] = [AV.i .u8 n, AV.i .i64 n_2, AV.s s]) ∧ Holds (3 ≤ List.length [AV.i .u8 0, AV.i .i64 0, AV.s (⟨#[]⟩ : ByteArray)]) ∧ R (AV.tu [AV.ag [AV.i .u8 n, AV.i .i64 n_2, AV.s s], AV.i .i64 a, AV.bo false]) [Blk.cells [AV.i .u8 n, AV.i .i64 n_2, AV.s s] true, Blk.cells [AV.i .u8 (↑(UInt8.toNat b) : Int), AV.i .i64 0, AV.s (⟨#[]⟩ : ByteArray)] true, Blk.cells [AV.i .i64 0, AV.i .i64 3, AV.i .i64 3, AV.i .i64 4, AV.i .i64 2] true]) (Wk 0 { t := [AV.s s, AV.i .i64 (IntKind.wrap .i64 (a + (1 : Int))), .bad, .bad, AV.p 0 0, .bad, .bad, AV.p 1 0, AV.sl 2 0 5 1 (some 5), AV.i .i64 0, AV.i .i64 0, .bad, .bad, .bad, .bad, .bad, .bad, .bad, .bad, .bad, .bad, .bad, .bad, .bad, .bad, .bad, .bad, .bad, .bad, .bad, .bad, .bad, .bad, .bad, .bad, .bad, .bad, .bad, .bad, .bad, .bad, .bad, .bad, .bad, .bad, .bad, .bad, .bad, .bad, .bad, .bad, .bad, .bad, .bad, .bad, .bad, .bad, .bad, .bad, .bad, .bad, .bad, .bad, .bad, .bad, .bad, .bad, .bad, .bad, .bad, .bad, .bad, .bad, .bad, .bad, .bad, .bad, .bad, .bad, .bad, .bad, .bad, .bad, .bad, .bad, .bad, .bad, .bad, .bad, .bad, .bad, .bad, .bad, .bad, .bad, .bad, .bad, .bad, .bad, .bad], h := [Blk.cells [AV.i .u8 0, AV.i .i64 0, AV.s (⟨#[]⟩ : ByteArray)] true, Blk.cells [AV.i .u8 (↑(UInt8.toNat b) : Int), AV.i .i64 0, AV.s (⟨#[]⟩ : ByteArray)] true, Blk.cells [AV.i .i64 0, AV.i .i64 3, AV.i .i64 3, AV.i .i64 4, AV.i .i64 2] true] } { t := [AV.s s, AV.i .i64 (IntKind.wrap .i64 (a + (1 : Int))), .bad, .bad, AV.p 0 0, .bad, .bad, AV.p 1 0, AV.sl 2 0 5 1 (some 5), AV.i .i64 0, AV.i .i64 0, .bad, .bad, .bad, .bad, .bad, .bad, .bad, .bad, .bad, .bad, .bad, .bad, .bad, .bad, .bad, .bad, .bad, .bad, .bad, .bad, .bad, .bad, .bad, .bad, .bad, .bad, .bad, .bad, .bad, .bad, .bad, .bad, .bad, .bad, .bad, .bad, .bad, .bad, .bad, .bad, .bad, .bad, .bad, .bad, .bad, .bad, .bad, .bad, .bad, .bad, .bad, .bad, .bad, .bad, .bad, .bad, .bad, .bad, .bad, .bad, .bad, .bad, .bad, .bad, .bad, .bad, .bad, .bad, .bad, .bad, .bad, .bad, .bad, .bad, .bad, .bad, .bad, .bad, .bad, .bad, .bad, .bad, .bad, .bad, .bad, .bad, .bad, .bad, .bad], h := [Blk.cells [AV.i .u8 0, AV.i .i64 0, AV.s (⟨#[]⟩ : ByteArray)] true, Blk.cells [AV.i .u8 kd, AV.i .i64 0, AV.s (⟨#[]⟩ : ByteArray)] true, Blk.cells [AV.i .i64 0, AV.i .i64 3, AV.i .i64 3, AV.i .i64 4, AV.i .i64 2] true] } ∧ ∃ (I : Nat → Int × Int × Int → Prop), ∃ (n : Nat), I n (IntKind.wrap .i64 (a + (1 : Int)), (0 : Int), (0 : Int)) ∧ ∀ (a : Int × Int × Int) (n : Nat), I n a → ∃ (n_2 : Int), Holds ([AV.i .u8 kd, AV.i .i64 0, AV.s (⟨#[]⟩ : ByteArray)][0]? = some (AV.i .u8 n_2)) ∧ Holds ((0 : Int) ≤ n_2 ∧ n_2 < (↑(5 : Nat) : Int)) ∧ ∃ (n_3 : Int), Holds ([AV.i .i64 0, AV.i .i64 3, AV.i .i64 3, AV.i .i64 4, AV.i .i64 2][0 + Int.toNat n_2 * 1]? = some (AV.i .i64 n_3)) ∧ br (decide (Prod.snd (Prod.snd a) < n_3)) (Holds ((0 : Int) ≤ Prod.fst a) ∧ ∃ (b : UInt8), Holds (s[Int.toNat (Prod.fst a)]? = some b) ∧ Wk 0 { t := [AV.s s, AV.i .i64 (IntKind.wrap .i64 (Prod.fst a + (1 : Int))), .bad, .bad, AV.p 0 0, .bad, .bad, AV.p 1 0, AV.sl 2 0 5 1 (some 5), AV.i .i64 (IntKind.wrap .i64 (IntKind.wrap .i64 (Prod.fst (Prod.snd a) * (256 : Int)) + IntKind.wrap .i64 (↑(UInt8.toNat b) : Int))), AV.i .i64 (IntKind.wrap .i64 (Prod.snd (Prod.snd a) + (1 : Int))), .bad, .bad, .bad, .bad, .bad, .bad, .bad, .bad, .bad, .bad, .bad, .bad, .bad, .bad, .bad, .bad, .bad, .bad, .bad, .bad, .bad, .bad, .bad, .bad, .bad, .bad, .bad, .bad, .bad, .bad, .bad, .bad, .bad, .bad, .bad, .bad, .bad, .bad, .bad, .bad, .bad, .bad, .bad, .bad, .bad, .bad, .bad, .bad, .bad, .bad, .bad, .bad, .bad, .bad, .bad, .bad, .bad, .bad, .bad, .bad, .bad, .bad, .bad, .bad, .bad, .bad, .bad, .bad, .bad, .bad, .bad, .bad, .bad, .bad, .bad, .bad, .bad, .bad, .bad, .bad, .bad, .bad, .bad, .bad, .bad, .bad, .bad, .bad, .bad], h := [Blk.cells [AV.i .u8 0, AV.i .i64 0, AV.s (⟨#[]⟩ : ByteArray)] true, Blk.cells [AV.i .u8 kd, AV.i .i64 0, AV.s (⟨#[]⟩ : ByteArray)] true, Blk.cells [AV.i .i64 0, AV.i .i64 3, AV.i .i64 3, AV.i .i64 4, AV.i .i64 2] true] } { t := [AV.s s, AV.i .i64 (IntKind.wrap .i64 (Prod.fst a + (1 : Int))), .bad, .bad, AV.p 0 0, .bad, .bad, AV.p 1 0, AV.sl 2 0 5 1 (some 5), AV.i .i64 (IntKind.wrap .i64 (IntKind.wrap .i64 (Prod.fst (Prod.snd a) * (256 : Int)) + IntKind.wrap .i64 (↑(UInt8.toNat b) : Int))), AV.i .i64 (IntKind.wrap .i64 (Prod.snd (Prod.snd a) + (1 : Int))), .bad, .bad, .bad, .bad, .bad, .bad, .bad, .bad, .bad, .bad, .bad, .bad, .bad, .bad, .bad, .bad, .bad, .bad, .bad, .bad, .bad, .bad, .bad, .bad, .bad, .bad, .bad, .bad, .bad, .bad, .bad, .bad, .bad, .bad, .bad, .bad, .bad, .bad, .bad, .bad, .bad, .bad, .bad, .bad, .bad, .bad, .bad, .bad, .bad, .bad, .bad, .bad, .bad, .bad, .bad, .bad, .bad, .bad, .bad, .bad, .bad, .bad, .bad, .bad, .bad, .bad, .bad, .bad, .bad, .bad, .bad, .bad, .bad, .bad, .bad, .bad, .bad, .bad, .bad, .bad, .bad, .bad, .bad, .bad, .bad, .bad, .bad, .bad, .bad], h := [Blk.cells [AV.i .u8 0, AV.i .i64 0, AV.s (⟨#[]⟩ : ByteArray)] true, Blk.cells [AV.i .u8 kd, AV.i .i64 0, AV.s (⟨#[]⟩ : ByteArray)] true, Blk.cells [AV.i .i64 0, AV.i .i64 3, AV.i .i64 3, AV.i .i64 4, AV.i .i64 2] true] } ∧ ∃ (m : Nat), Holds (m < n) ∧ I m (IntKind.wrap .i64 (Prod.fst a + (1 : Int)), IntKind.wrap .i64 (IntKind.wrap .i64 (Prod.fst (Prod.snd a) * (256 : Int)) + IntKind.wrap .i64 (↑(UInt8.toNat b) : Int)), IntKind.wrap .i64 (Prod.snd (Prod.snd a) + (1 : Int)))) (∃ (n : Int), Holds ([AV.i .u8 kd, AV.i .i64 0, AV.s (⟨#[]⟩ : ByteArray)][0]? = some (AV.i .u8 n)) ∧ br (n == (3 : Int)) (Holds (2 ≤ List.length [AV.i .u8 kd, AV.i .i64 0, AV.s (⟨#[]⟩ : ByteArray)]) ∧ ∃ (n : Int), ∃ (n_4 : Int), ∃ (s : ByteArray), Holds ([AV.i .u8 kd, AV.i .i64 (Prod.fst (Prod.snd a)), AV.s (⟨#[]⟩ : ByteArray)] = [AV.i .u8 n, AV.i .i64 n_4, AV.s s]) ∧ Holds (3 ≤ List.length [AV.i .u8 0, AV.i .i64 0, AV.s (⟨#[]⟩ : ByteArray)]) ∧ R (AV.tu [AV.ag [AV.i .u8 n, AV.i .i64 n_4, AV.s s], AV.i .i64 (Prod.fst a), AV.bo (decide (Prod.fst (Prod.snd a) ≤ (2147483647 : Int)))]) [Blk.cells [AV.i .u8 n, AV.i .i64 n_4, AV.s s] true, Blk.cells [AV.i .u8 kd, AV.i .i64 (Prod.fst (Prod.snd a)), AV.s (⟨#[]⟩ : ByteArray)] true, Blk.cells [AV.i .i64 0, AV.i .i64 3, AV.i .i64 3, AV.i .i64 4, AV.i .i64 2] true]) (br (decide (Prod.fst (Prod.snd a) > (65575 : Int))) (∃ (n : Int), ∃ (n_4 : Int), ∃ (s : ByteArray), Holds ([AV.i .u8 kd, AV.i .i64 0, AV.s (⟨#[]⟩ : ByteArray)] = [AV.i .u8 n, AV.i .i64 n_4, AV.s s]) ∧ Holds (3 ≤ List.length [AV.i .u8 0, AV.i .i64 0, AV.s (⟨#[]⟩ : ByteArray)]) ∧ R (AV.tu [AV.ag [AV.i .u8 n, AV.i .i64 n_4, AV.s s], AV.i .i64 (Prod.fst a), AV.bo false]) [Blk.cells [AV.i .u8 n, AV.i .i64 n_4, AV.s s] true, Blk.cells [AV.i .u8 kd, AV.i .i64 0, AV.s (⟨#[]⟩ : ByteArray)] true, Blk.cells [AV.i .i64 0, AV.i .i64 3, AV.i .i64 3, AV.i .i64 4, AV.i .i64 2] true]) (∃ (n : Int), Holds ([AV.i .u8 kd, AV.i .i64 0, AV.s (⟨#[]⟩ : ByteArray)][0]? = some (AV.i .u8 n)) ∧ br (n == (4 : Int)) (br (decide (Prod.fst (Prod.snd a) > (300 : Int))) (∃ (n : Int), ∃ (n_4 : Int), ∃ (s : ByteArray), Holds ([AV.i .u8 kd, AV.i .i64 0, AV.s (⟨#[]⟩ : ByteArray)] = [AV.i .u8 n, AV.i .i64 n_4, AV.s s]) ∧ Holds (3 ≤ List.length [AV.i .u8 0, AV.i .i64 0, AV.s (⟨#[]⟩ : ByteArray)]) ∧ R (AV.tu [AV.ag [AV.i .u8 n, AV.i .i64 n_4, AV.s s], AV.i .i64 (Prod.fst a), AV.bo false]) [Blk.cells [AV.i .u8 n, AV.i .i64 n_4, AV.s s] true, Blk.cells [AV.i .u8 kd, AV.i .i64 0, AV.s (⟨#[]⟩ : ByteArray)] true, Blk.cells [AV.i .i64 0, AV.i .i64 3, AV.i .i64 3, AV.i .i64 4, AV.i .i64 2] true]) (br (decide (IntKind.wrap .i64 (Prod.fst a + Prod.fst (Prod.snd a)) > (↑(ByteArray.size s) : Int))) (∃ (n : Int), ∃ (n_4 : Int), ∃ (s : ByteArray), Holds ([AV.i .u8 kd, AV.i .i64 0, AV.s (⟨#[]⟩ : ByteArray)] = [AV.i .u8 n, AV.i .i64 n_4, AV.s s]) ∧ Holds (3 ≤ List.length [AV.i .u8 0, AV.i .i64 0, AV.s (⟨#[]⟩ : ByteArray)]) ∧ R (AV.tu [AV.ag [AV.i .u8 n, AV.i .i64 n_4, AV.s s], AV.i .i64 (Prod.fst a), AV.bo false]) [Blk.cells [AV.i .u8 n, AV.i .i64 n_4, AV.s s] true, Blk.cells [AV.i .u8 kd, AV.i .i64 0, AV.s (⟨#[]⟩ : ByteArray)] true, Blk.cells [AV.i .i64 0, AV.i .i64 3, AV.i .i64 3, AV.i .i64 4, AV.i .i64 2] true]) (Holds ((0 : Int) ≤ IntKind.wrap .i64 (Prod.fst a + Prod.fst (Prod.snd a)) ∧ IntKind.wrap .i64 (Prod.fst a + Prod.fst (Prod.snd a)) ≤ (↑(ByteArray.size s) : Int)) ∧ Holds ((0 : Int) ≤ Prod.fst a ∧ Prod.fst a ≤ (↑(Int.toNat (IntKind.wrap .i64 (Prod.fst a + Prod.fst (Prod.snd a)))) : Int)) ∧ Holds (3 ≤ List.length [AV.i .u8 kd, AV.i .i64 0, AV.s (⟨#[]⟩ : ByteArray)]) ∧ ∃ (n : Int), ∃ (n_4 : Int), ∃ (s_1 : ByteArray), Holds ([AV.i .u8 kd, AV.i .i64 0, AV.s (ByteArray.extract s (Int.toNat (Prod.fst a)) (Int.toNat (IntKind.wrap .i64 (Prod.fst a + Prod.fst (Prod.snd a)))))] = [AV.i .u8 n, AV.i .i64 n_4, AV.s s_1]) ∧ Holds (3 ≤ List.length [AV.i .u8 0, AV.i .i64 0, AV.s (⟨#[]⟩ : ByteArray)]) ∧ R (AV.tu [AV.ag [AV.i .u8 n, AV.i .i64 n_4, AV.s s_1], AV.i .i64 (IntKind.wrap .i64 (Prod.fst a + Prod.fst (Prod.snd a))), AV.bo true]) [Blk.cells [AV.i .u8 n, AV.i .i64 n_4, AV.s s_1] true, Blk.cells [AV.i .u8 kd, AV.i .i64 0, AV.s (ByteArray.extract s (Int.toNat (Prod.fst a)) (Int.toNat (IntKind.wrap .i64 (Prod.fst a + Prod.fst (Prod.snd a)))))] true, Blk.cells [AV.i .i64 0, AV.i .i64 3, AV.i .i64 3, AV.i .i64 4, AV.i .i64 2] true]))) (br (decide (IntKind.wrap .i64 (Prod.fst a + Prod.fst (Prod.snd a)) > (↑(ByteArray.size s) : Int))) (∃ (n : Int), ∃ (n_4 : Int), ∃ (s : ByteArray), Holds ([AV.i .u8 kd, AV.i .i64 0, AV.s (⟨#[]⟩ : ByteArray)] = [AV.i .u8 n, AV.i .i64 n_4, AV.s s]) ∧ Holds (3 ≤ List.length [AV.i .u8 0, AV.i .i64 0, AV.s (⟨#[]⟩ : ByteArray)]) ∧ R (AV.tu [AV.ag [AV.i .u8 n, AV.i .i64 n_4, AV.s s], AV.i .i64 (Prod.fst a), AV.bo false]) [Blk.cells [AV.i .u8 n, AV.i .i64 n_4, AV.s s] true, Blk.cells [AV.i .u8 kd, AV.i .i64 0, AV.s (⟨#[]⟩ : ByteArray)] true, Blk.cells [AV.i .i64 0, AV.i .i64 3, AV.i .i64 3, AV.i .i64 4, AV.i .i64 2] true]) (Holds ((0 : Int) ≤ IntKind.wrap .i64 (Prod.fst a + Prod.fst (Prod.snd a)) ∧ IntKind.wrap .i64 (Prod.fst a + Prod.fst (Prod.snd a)) ≤ (↑(ByteArray.size s) : Int)) ∧ Holds ((0 : Int) ≤ Prod.fst a ∧ Prod.fst a ≤ (↑(Int.toNat (IntKind.wrap .i64 (Prod.fst a + Prod.fst (Prod.snd a)))) : Int)) ∧ Holds (3 ≤ List.length [AV.i .u8 kd, AV.i .i64 0, AV.s (⟨#[]⟩ : ByteArray)]) ∧ ∃ (n : Int), ∃ (n_4 : Int), ∃ (s_1 : ByteArray), Holds ([AV.i .u8 kd, AV.i .i64 0, AV.s (ByteArray.extract s (Int.toNat (Prod.fst a)) (Int.toNat (IntKind.wrap .i64 (Prod.fst a + Prod.fst (Prod.snd a)))))] = [AV.i .u8 n, AV.i .i64 n_4, AV.s s_1]) ∧ Holds (3 ≤ List.length [AV.i .u8 0, AV.i .i64 0, AV.s (⟨#[]⟩ : ByteArray)]) ∧ R (AV.tu [AV.ag [AV.i .u8 n, AV.i .i64 n_4, AV.s s_1], AV.i .i64 (IntKind.wrap .i64 (Prod.fst a + Prod.fst (Prod.snd a))), AV.bo true]) [Blk.cells [AV.i .u8 n, AV.i .i64 n_4, AV.s s_1] true, Blk.cells [AV.i .u8 kd, AV.i .i64 0, AV.s (ByteArray.extract s (Int.toNat (Prod.fst a)) (Int.toNat (IntKind.wrap .i64 (Prod.fst a + Prod.fst (Prod.snd a)))))] true, Blk.cells [AV.i .i64 0, AV.i .i64 3, AV.i .i64 3, AV.i .i64 4, AV.i .i64 2] true]))))))))) := by kernel_rfl
theorem vc17 (bv : Ev → ByteArray) (ov : Ev → Bool) (ok : Ev → Prop) (k n : Int) (t : ByteArray) (R : AV → Hp → Prop) : (wpFn P (tcons 21 (t0 unEv ok fun x K => K (.tu [.s (bv x), .bo (ov x)]) []) tnil) noW noL 0 Go.Proofs.Try.f17 [.ag [.i .u8 k, .i .i64 n, .s t]] [] R) = (∃ (n_1 : Int), ∃ (n_2 : Int), ∃ (s : ByteArray), Holds ([AV.i .u8 k, AV.i .i64 n, AV.s t] = [AV.i .u8 n_1, AV.i .i64 n_2, AV.s s]) ∧ Holds (ok (n_1, n_2, s)) ∧ R (AV.bo (ov (n_1, n_2, s))) [Blk.cells [AV.i .u8 k, AV.i .i64 n, AV.s t] true]) := by kernel_rfl
/-! the reference's reading -/
def acc (l : List UInt8) : Int := l.foldl (fun n b => n * 256 + (b.toNat : Int)) 0
theorem acc_snoc (l : List UInt8) (b : UInt8) : acc (l ++ [b]) = acc l * 256 + (b.toNat : Int) := by
  unfold acc; rw [List.foldl_append]; rfl
theorem acc_range : ∀ (n : Nat) (l : List UInt8), l.length = n → 0 ≤ acc l ∧ acc l < 256 ^ n
  | 0, l, h => by
    obtain rfl := List.length_eq_zero_iff.1 h
    exact ⟨by decide, by decide⟩
  | n + 1, l, h => by
    have hne : l ≠ [] := fun e => by rw [e] at h; simp at h
    have e := List.dropLast_concat_getLast hne
    have hl : l.dropLast.length = n := by rw [List.length_dropLast, h]; rfl
    have ih := acc_range n l.dropLast hl
    rw [← e, acc_snoc]
    have hb := (l.getLast hne).toNat_lt
    rw [Int.pow_succ]
    omega
theorem acc2 (a b : UInt8) : acc [a, b] = be2 a b := by simp [acc, be2]
theorem acc3 (a b c : UInt8) : acc [a, b, c] = be3 a b c := by simp [acc, be3, be2]
theorem acc4 (a b c d : UInt8) : acc [a, b, c, d] = be4 a b c d := by simp [acc, be4, be3, be2]
def txtR (k w most y : Int) (s : ByteArray) (a : Int) : Ev × Int × Bool :=
  if y ≤ most ∧ a + 1 + w + y ≤ s.size then ((k, 0, s.extract (a + 1 + w).toNat (a + 1 + w + y).toNat), a + 1 + w + y, true) else ((k, 0, ⟨#[]⟩), a + 1 + w, false)
/-- The event at a place: the reference's. -/
def rdR (q : ByteArray × Int) : Ev × Int × Bool := match q.1.data.toList.drop q.2.toNat with
  | [] => ((0, 0, ⟨#[]⟩), q.2, false)
  | b :: r =>
    if (b.toNat : Int) = 3 then (match r with
      | x1 :: x2 :: x3 :: x4 :: _ => ((b.toNat, be4 x1 x2 x3 x4, ⟨#[]⟩), q.2 + 1 + 4, decide (be4 x1 x2 x3 x4 ≤ 2147483647))
      | _ => ((b.toNat, 0, ⟨#[]⟩), q.2, false)) else
    if (b.toNat : Int) = 4 then (match r with
      | x1 :: x2 :: _ => txtR b.toNat 2 300 (be2 x1 x2) q.1 q.2
      | _ => ((b.toNat, 0, ⟨#[]⟩), q.2, false)) else
    if (b.toNat : Int) = 1 ∨ (b.toNat : Int) = 2 then (match r with
      | x1 :: x2 :: x3 :: _ => txtR b.toNat 3 65575 (be3 x1 x2 x3) q.1 q.2
      | _ => ((b.toNat, 0, ⟨#[]⟩), q.2, false)) else
    ((b.toNat, 0, ⟨#[]⟩), q.2, false)
def okR (q : ByteArray × Int) : Prop := 0 ≤ q.2 ∧ q.2 < q.1.size ∧ q.1.size ≤ 4611686018427387904
theorem run20 {s : ByteArray} {a : Int} (hs : okR (s, a)) {b : UInt8} (hb : s[a.toNat]? = some b) {R : AV → Hp → Prop} (hR : Done 0 (resR (rdR (s, a)), []) R) : Holds (wpFn P tnil noW (head20 s b.toNat) 0 Go.Proofs.Try.f20 [.s s, .i .i64 a] [] R) := by
  obtain ⟨ha, hlt, hsz⟩ := hs
  simp only at ha hlt hsz
  have fin : ∀ k n t a' b h, ((k, n, t), a', b) = rdR (s, a) → R (.tu [.ag [.i .u8 k, .i .i64 n, .s t], .i .i64 a', .bo b]) h := fun k n t a' b h e => hR.flat (r := resR (rdR (s, a))) (by rw [← e]; rfl) (Nat.zero_le _) |> fun h => by rw [← e] at h; exact h
  obtain ⟨A, rfl⟩ : ∃ A : Nat, a = A := ⟨a.toNat, by omega⟩
  simp only [Int.toNat_natCast] at hb
  have hl := size_list s
  have hd : s.data.toList.drop A = b :: s.data.toList.drop (A + 1) := by
    rw [List.drop_eq_getElem_cons (show A < s.data.toList.length by omega)]
    rw [bget, List.getElem?_eq_getElem (show A < s.data.toList.length by omega)] at hb
    rw [Option.some.inj hb]
  have hr : ∀ i, s[A + 1 + i]? = (s.data.toList.drop (A + 1))[i]? := fun i => by rw [bget, List.getElem?_drop]
  have hrl : (s.data.toList.drop (A + 1)).length + (A + 1) = s.size := by rw [List.length_drop]; omega
  unfold rdR at fin
  simp only [Int.toNat_natCast, hd] at fin
  generalize s.data.toList.drop (A + 1) = r at *
  have hbl := byte_lt b
  have wa : IntKind.wrap .i64 ((A : Int) + 1) = A + 1 := i64w (by omega) (by omega)
  refine ⟨?_⟩
  rw [vc20]
  simp only [↓br_ite, ↓reduceIte, holds_eq, List.getElem?_cons_zero, List.getElem?_cons_succ, Option.some.injEq, AV.i.injEq, AV.s.injEq, AV.bo.injEq, true_and, and_true, List.cons.injEq, List.length_cons, List.length_nil, and_assoc, exists_and_left, exists_eq_left', exists_eq_left, br_true, br_false, Nat.zero_add, Nat.add_zero, Nat.reduceAdd, Nat.reduceLeDiff, Nat.le_refl, numsOf_one, beq_self_eq_true, Int.reduceLE, Int.reduceLT, Int.reduceAdd, Int.reduceSub, Int.reduceMul, Int.reduceNeg, Int.reduceToNat, Int.reducePow, Int.reduceMod, Int.reduceDiv, Int.cast_ofNat_Int, Int.reduceBEq, i64w, decide_true, decide_false, Int.le_refl, Nat.min_def, reduceIte, Int.one_mul, bits64, Int.natCast_add, Bool.false_eq_true, Int.toNat_natCast, hb, wa, Int.natCast_nonneg]
  -- the loop, for so many bytes
  have loop : ∀ (w : Nat) (wi : Int), wi = w → w ≤ 4 → w ≤ r.length → ∀ (K : Int × Int × Int → Prop), K ((A : Int) + 1 + wi, acc (r.take w), wi) →
      ∃ (I : Nat → Int × Int × Int → Prop) (n : Nat), I n ((A : Int) + 1, 0, 0) ∧ ∀ (a : Int × Int × Int) (n : Nat), I n a →
        if decide (a.2.2 < wi) = true then 0 ≤ a.1 ∧ ∃ b2, s[a.1.toNat]? = some b2 ∧ ∃ m, m < n ∧ I m (IntKind.wrap .i64 (a.1 + 1), IntKind.wrap .i64 (IntKind.wrap .i64 (a.2.1 * 256) + IntKind.wrap .i64 (b2.toNat : Int)), IntKind.wrap .i64 (a.2.2 + 1)) else K a := by
    intro w wi hwi hw hwr K hK
    subst hwi
    refine ⟨fun n q => ∃ i : Nat, i + n = w ∧ q = ((A : Int) + 1 + i, acc (r.take i), (i : Int)), w, ⟨0, by omega, rfl⟩, ?_⟩
    rintro q n ⟨i, hi, rfl⟩
    simp only [decide_eq_true_eq]
    split
    · rename_i hc
      have hi' : i < r.length := by omega
      have rg := acc_range i (r.take i) (by rw [List.length_take]; omega)
      have hp : (256 : Int) ^ i ≤ 16777216 := by
        have : i = 0 ∨ i = 1 ∨ i = 2 ∨ i = 3 := by omega
        rcases this with rfl | rfl | rfl | rfl <;> decide
      have hbb := byte_lt r[i]
      refine ⟨by omega, r[i], ?_, n - 1, by omega, i + 1, by omega, ?_⟩
      · rw [show ((A : Int) + 1 + i).toNat = A + 1 + i by omega, hr, List.getElem?_eq_getElem hi']
      · rw [i64w (x := (r[i].toNat : Int)) (by omega) (by omega), i64w (x := acc (r.take i) * 256) (by omega) (by omega), i64w (x := acc (r.take i) * 256 + _) (by omega) (by omega), i64w (by omega) (by omega), i64w (by omega) (by omega), ← acc_snoc, List.take_append_getElem hi']
        simp only [Prod.mk.injEq, true_and]
        omega
    · rename_i hc
      have : i = w := by omega
      subst this
      exact hK
  by_cases c1 : (b.toNat : Int) = 1
  · simp only [c1, Int.reduceEq, if_false, if_true, true_or, or_true] at fin
    have cn : b.toNat = 1 := by omega
    simp only [↓reduceIte, c1, Int.reduceGT, Int.reduceLT, decide_false, Bool.false_eq_true, true_and, Int.reduceLE]
    simp only [↓reduceIte, holds_eq, List.getElem?_cons_zero, List.getElem?_cons_succ, Option.some.injEq, AV.i.injEq, AV.s.injEq, AV.bo.injEq, true_and, and_true, List.cons.injEq, List.length_cons, List.length_nil, and_assoc, exists_and_left, exists_eq_left', exists_eq_left, br_true, br_false, Nat.zero_add, Nat.add_zero, Nat.reduceAdd, Nat.reduceLeDiff, Nat.le_refl, numsOf_one, beq_self_eq_true, Int.reduceLE, Int.reduceLT, Int.reduceAdd, Int.reduceSub, Int.reduceMul, Int.reduceNeg, Int.reduceToNat, Int.reducePow, Int.reduceMod, Int.reduceDiv, Int.cast_ofNat_Int, Int.reduceBEq, i64w, decide_true, decide_false, Int.le_refl, Nat.min_def, reduceIte, Int.one_mul, bits64, Int.natCast_add, cn, Int.reduceGT, Int.reduceLT, Bool.false_eq_true, Nat.reduceMul, wk_and]
    have ws : IntKind.wrap .i64 ((A : Int) + 1 + 3) = A + 1 + 3 := i64w (by omega) (by omega)
    simp only [ws]
    by_cases hw : (A : Int) + 1 + 3 > s.size
    · simp only [hw, decide_true, ↓reduceIte]
      refine fin _ _ _ _ _ _ ?_
      have : r.length < 3 := by omega
      match r, this with
      | [], _ => rfl
      | [x1], _ => rfl
      | [x1, x2], _ => rfl
      | x1 :: x2 :: x3 :: r, h => simp only [List.length_cons] at h; omega
    · simp only [hw, decide_false, ↓reduceIte, Bool.false_eq_true]
      refine loop 3 3 rfl (by omega) (by omega) _ ?_
      have : 3 ≤ r.length := by omega
      match r, this with
      | [], h => exact absurd h (by simp)
      | [x1], h => exact absurd h (by simp)
      | [x1, x2], h => exact absurd h (by simp)
      | x1 :: x2 :: x3 :: r, h =>
        simp only [List.take_succ_cons, List.take_zero, acc3]
        have hy := be3_r x1 x2 x3
        have w2 : IntKind.wrap .i64 ((A : Int) + 1 + 3 + be3 x1 x2 x3) = A + 1 + 3 + be3 x1 x2 x3 := i64w (by omega) (by omega)
        simp only [w2]
        have key : ∀ q, q = txtR 1 3 65575 (be3 x1 x2 x3) s A → ∀ h, R (.tu [.ag [.i .u8 q.1.1, .i .i64 q.1.2.1, .s q.1.2.2], .i .i64 q.2.1, .bo q.2.2]) h := fun q hq h => fin _ _ _ _ _ _ hq
        by_cases t1 : be3 x1 x2 x3 ≤ 65575
        · by_cases t2 : (A : Int) + 1 + 3 + be3 x1 x2 x3 ≤ s.size
          · have e := key _ rfl
            rw [txtR, if_pos ⟨t1, t2⟩] at e
            have g1 : ¬ (be3 x1 x2 x3 > 65575) := by omega
            have g2 : ¬ ((A : Int) + 1 + 3 + be3 x1 x2 x3 > s.size) := by omega
            simp only [g1, g2, decide_false, ↓reduceIte, Bool.false_eq_true]
            exact ⟨by omega, by omega, by omega, by omega, e _⟩
          · have e := key _ rfl
            rw [txtR, if_neg (fun h => t2 h.2)] at e
            have g1 : ¬ (be3 x1 x2 x3 > 65575) := by omega
            have g2 : (A : Int) + 1 + 3 + be3 x1 x2 x3 > s.size := by omega
            simp only [g1, g2, decide_true, decide_false, ↓reduceIte, Bool.false_eq_true]
            exact e _
        · have e := key _ rfl
          rw [txtR, if_neg (fun h => t1 h.1)] at e
          have g1 : be3 x1 x2 x3 > 65575 := by omega
          simp only [g1, decide_true, decide_false, ↓reduceIte, Bool.false_eq_true]
          exact e _
  by_cases c2 : (b.toNat : Int) = 2
  · simp only [c2, Int.reduceEq, if_false, if_true, true_or, or_true] at fin
    have cn : b.toNat = 2 := by omega
    simp only [↓reduceIte, c2, Int.reduceGT, Int.reduceLT, decide_false, Bool.false_eq_true, true_and, Int.reduceLE]
    simp only [↓reduceIte, holds_eq, List.getElem?_cons_zero, List.getElem?_cons_succ, Option.some.injEq, AV.i.injEq, AV.s.injEq, AV.bo.injEq, true_and, and_true, List.cons.injEq, List.length_cons, List.length_nil, and_assoc, exists_and_left, exists_eq_left', exists_eq_left, br_true, br_false, Nat.zero_add, Nat.add_zero, Nat.reduceAdd, Nat.reduceLeDiff, Nat.le_refl, numsOf_one, beq_self_eq_true, Int.reduceLE, Int.reduceLT, Int.reduceAdd, Int.reduceSub, Int.reduceMul, Int.reduceNeg, Int.reduceToNat, Int.reducePow, Int.reduceMod, Int.reduceDiv, Int.cast_ofNat_Int, Int.reduceBEq, i64w, decide_true, decide_false, Int.le_refl, Nat.min_def, reduceIte, Int.one_mul, bits64, Int.natCast_add, cn, Int.reduceGT, Int.reduceLT, Bool.false_eq_true, Nat.reduceMul, wk_and]
    have ws : IntKind.wrap .i64 ((A : Int) + 1 + 3) = A + 1 + 3 := i64w (by omega) (by omega)
    simp only [ws]
    by_cases hw : (A : Int) + 1 + 3 > s.size
    · simp only [hw, decide_true, ↓reduceIte]
      refine fin _ _ _ _ _ _ ?_
      have : r.length < 3 := by omega
      match r, this with
      | [], _ => rfl
      | [x1], _ => rfl
      | [x1, x2], _ => rfl
      | x1 :: x2 :: x3 :: r, h => simp only [List.length_cons] at h; omega
    · simp only [hw, decide_false, ↓reduceIte, Bool.false_eq_true]
      refine loop 3 3 rfl (by omega) (by omega) _ ?_
      have : 3 ≤ r.length := by omega
      match r, this with
      | [], h => exact absurd h (by simp)
      | [x1], h => exact absurd h (by simp)
      | [x1, x2], h => exact absurd h (by simp)
      | x1 :: x2 :: x3 :: r, h =>
        simp only [List.take_succ_cons, List.take_zero, acc3]
        have hy := be3_r x1 x2 x3
        have w2 : IntKind.wrap .i64 ((A : Int) + 1 + 3 + be3 x1 x2 x3) = A + 1 + 3 + be3 x1 x2 x3 := i64w (by omega) (by omega)
        simp only [w2]
        have key : ∀ q, q = txtR 2 3 65575 (be3 x1 x2 x3) s A → ∀ h, R (.tu [.ag [.i .u8 q.1.1, .i .i64 q.1.2.1, .s q.1.2.2], .i .i64 q.2.1, .bo q.2.2]) h := fun q hq h => fin _ _ _ _ _ _ hq
        by_cases t1 : be3 x1 x2 x3 ≤ 65575
        · by_cases t2 : (A : Int) + 1 + 3 + be3 x1 x2 x3 ≤ s.size
          · have e := key _ rfl
            rw [txtR, if_pos ⟨t1, t2⟩] at e
            have g1 : ¬ (be3 x1 x2 x3 > 65575) := by omega
            have g2 : ¬ ((A : Int) + 1 + 3 + be3 x1 x2 x3 > s.size) := by omega
            simp only [g1, g2, decide_false, ↓reduceIte, Bool.false_eq_true]
            exact ⟨by omega, by omega, by omega, by omega, e _⟩
          · have e := key _ rfl
            rw [txtR, if_neg (fun h => t2 h.2)] at e
            have g1 : ¬ (be3 x1 x2 x3 > 65575) := by omega
            have g2 : (A : Int) + 1 + 3 + be3 x1 x2 x3 > s.size := by omega
            simp only [g1, g2, decide_true, decide_false, ↓reduceIte, Bool.false_eq_true]
            exact e _
        · have e := key _ rfl
          rw [txtR, if_neg (fun h => t1 h.1)] at e
          have g1 : be3 x1 x2 x3 > 65575 := by omega
          simp only [g1, decide_true, decide_false, ↓reduceIte, Bool.false_eq_true]
          exact e _
  by_cases c4 : (b.toNat : Int) = 4
  · simp only [c4, Int.reduceEq, if_false, if_true, true_or, or_true] at fin
    have cn : b.toNat = 4 := by omega
    simp only [↓reduceIte, c4, Int.reduceGT, Int.reduceLT, decide_false, Bool.false_eq_true, true_and, Int.reduceLE]
    simp only [↓reduceIte, holds_eq, List.getElem?_cons_zero, List.getElem?_cons_succ, Option.some.injEq, AV.i.injEq, AV.s.injEq, AV.bo.injEq, true_and, and_true, List.cons.injEq, List.length_cons, List.length_nil, and_assoc, exists_and_left, exists_eq_left', exists_eq_left, br_true, br_false, Nat.zero_add, Nat.add_zero, Nat.reduceAdd, Nat.reduceLeDiff, Nat.le_refl, numsOf_one, beq_self_eq_true, Int.reduceLE, Int.reduceLT, Int.reduceAdd, Int.reduceSub, Int.reduceMul, Int.reduceNeg, Int.reduceToNat, Int.reducePow, Int.reduceMod, Int.reduceDiv, Int.cast_ofNat_Int, Int.reduceBEq, i64w, decide_true, decide_false, Int.le_refl, Nat.min_def, reduceIte, Int.one_mul, bits64, Int.natCast_add, cn, Int.reduceGT, Int.reduceLT, Bool.false_eq_true, Nat.reduceMul, wk_and]
    have ws : IntKind.wrap .i64 ((A : Int) + 1 + 2) = A + 1 + 2 := i64w (by omega) (by omega)
    simp only [ws]
    by_cases hw : (A : Int) + 1 + 2 > s.size
    · simp only [hw, decide_true, ↓reduceIte]
      refine fin _ _ _ _ _ _ ?_
      have : r.length < 2 := by omega
      match r, this with
      | [], _ => rfl
      | [x1], _ => rfl
      | x1 :: x2 :: r, h => simp only [List.length_cons] at h; omega
    · simp only [hw, decide_false, ↓reduceIte, Bool.false_eq_true]
      refine loop 2 2 rfl (by omega) (by omega) _ ?_
      have : 2 ≤ r.length := by omega
      match r, this with
      | [], h => exact absurd h (by simp)
      | [x1], h => exact absurd h (by simp)
      | x1 :: x2 :: r, h =>
        simp only [List.take_succ_cons, List.take_zero, acc2]
        have hy := be2_r x1 x2
        have w2 : IntKind.wrap .i64 ((A : Int) + 1 + 2 + be2 x1 x2) = A + 1 + 2 + be2 x1 x2 := i64w (by omega) (by omega)
        simp only [w2]
        have key : ∀ q, q = txtR 4 2 300 (be2 x1 x2) s A → ∀ h, R (.tu [.ag [.i .u8 q.1.1, .i .i64 q.1.2.1, .s q.1.2.2], .i .i64 q.2.1, .bo q.2.2]) h := fun q hq h => fin _ _ _ _ _ _ hq
        have g0 : ¬ (be2 x1 x2 > 65575) := by omega
        by_cases t1 : be2 x1 x2 ≤ 300
        · by_cases t2 : (A : Int) + 1 + 2 + be2 x1 x2 ≤ s.size
          · have e := key _ rfl
            rw [txtR, if_pos ⟨t1, t2⟩] at e
            have g1 : ¬ (be2 x1 x2 > 300) := by omega
            have g2 : ¬ ((A : Int) + 1 + 2 + be2 x1 x2 > s.size) := by omega
            simp only [g0, g1, g2, decide_false, ↓reduceIte, Bool.false_eq_true]
            exact ⟨by omega, by omega, by omega, by omega, e _⟩
          · have e := key _ rfl
            rw [txtR, if_neg (fun h => t2 h.2)] at e
            have g1 : ¬ (be2 x1 x2 > 300) := by omega
            have g2 : (A : Int) + 1 + 2 + be2 x1 x2 > s.size := by omega
            simp only [g0, g1, g2, decide_true, decide_false, ↓reduceIte, Bool.false_eq_true]
            exact e _
        · have e := key _ rfl
          rw [txtR, if_neg (fun h => t1 h.1)] at e
          have g1 : be2 x1 x2 > 300 := by omega
          simp only [g0, g1, decide_true, decide_false, ↓reduceIte, Bool.false_eq_true]
          exact e _
  by_cases c3 : (b.toNat : Int) = 3
  · simp only [c3, Int.reduceEq, if_false, if_true, true_or, or_true] at fin
    have cn : b.toNat = 3 := by omega
    simp only [↓reduceIte, c3, Int.reduceGT, Int.reduceLT, decide_false, Bool.false_eq_true, true_and, Int.reduceLE]
    simp only [↓reduceIte, holds_eq, List.getElem?_cons_zero, List.getElem?_cons_succ, Option.some.injEq, AV.i.injEq, AV.s.injEq, AV.bo.injEq, true_and, and_true, List.cons.injEq, List.length_cons, List.length_nil, and_assoc, exists_and_left, exists_eq_left', exists_eq_left, br_true, br_false, Nat.zero_add, Nat.add_zero, Nat.reduceAdd, Nat.reduceLeDiff, Nat.le_refl, numsOf_one, beq_self_eq_true, Int.reduceLE, Int.reduceLT, Int.reduceAdd, Int.reduceSub, Int.reduceMul, Int.reduceNeg, Int.reduceToNat, Int.reducePow, Int.reduceMod, Int.reduceDiv, Int.cast_ofNat_Int, Int.reduceBEq, i64w, decide_true, decide_false, Int.le_refl, Nat.min_def, reduceIte, Int.one_mul, bits64, Int.natCast_add, cn, Int.reduceGT, Int.reduceLT, Bool.false_eq_true, Nat.reduceMul, wk_and]
    have ws : IntKind.wrap .i64 ((A : Int) + 1 + 4) = A + 1 + 4 := i64w (by omega) (by omega)
    simp only [ws]
    by_cases hw : (A : Int) + 1 + 4 > s.size
    · simp only [hw, decide_true, ↓reduceIte]
      refine fin _ _ _ _ _ _ ?_
      have : r.length < 4 := by omega
      match r, this with
      | [], _ => rfl
      | [x1], _ => rfl
      | [x1, x2], _ => rfl
      | [x1, x2, x3], _ => rfl
      | x1 :: x2 :: x3 :: x4 :: r, h => simp only [List.length_cons] at h; omega
    · simp only [hw, decide_false, ↓reduceIte, Bool.false_eq_true]
      refine loop 4 4 rfl (by omega) (by omega) _ ?_
      have : 4 ≤ r.length := by omega
      match r, this with
      | [], h => exact absurd h (by simp)
      | [x1], h => exact absurd h (by simp)
      | [x1, x2], h => exact absurd h (by simp)
      | [x1, x2, x3], h => exact absurd h (by simp)
      | x1 :: x2 :: x3 :: x4 :: r, h =>
        simp only [List.take_succ_cons, List.take_zero, acc4]
        exact fin _ _ _ _ _ _ rfl
  have k1 : ¬ ((1 : Int) ≤ b.toNat ∧ (b.toNat : Int) ≤ 4) := by omega
  simp only [c1, c2, c3, c4, if_false, or_self] at fin
  by_cases z : (b.toNat : Int) < 1
  · simp only [z, decide_true, ↓reduceIte]
    exact fin _ _ _ _ _ _ rfl
  · have z2 : (b.toNat : Int) > 4 := by omega
    simp only [z, z2, decide_true, decide_false, ↓reduceIte, Bool.false_eq_true]
    exact fin _ _ _ _ _ _ rfl
def mkE (e : Ev) : List AV := [.ag (mkEv e)]
theorem run17 {e : Ev} {R : AV → Hp → Prop} (he : e.2.2.size ≤ 4611686018427387904) (hR : Done 0 (.bo (okE e), []) R) : Holds (wpFn P (tcons 21 (t0 unEv (fun e => e.2.2.size ≤ 4611686018427387904) fun x K => K (.tu [.s (bytesE x), .bo (okE x)]) []) tnil) noW noL 0 Go.Proofs.Try.f17 [.ag (mkEv e)] [] R) := by
  refine ⟨?_⟩
  rw [mkEv, vc17]
  simp only [holds_eq, List.getElem?_cons_zero, List.getElem?_cons_succ, Option.some.injEq, AV.i.injEq, AV.s.injEq, AV.bo.injEq, true_and, and_true, List.cons.injEq, List.length_cons, List.length_nil, and_assoc, exists_and_left, exists_eq_left', exists_eq_left, br_true, br_false, Nat.zero_add, Nat.add_zero, Nat.reduceAdd, Nat.reduceLeDiff, Nat.le_refl, numsOf_one, beq_self_eq_true, Int.reduceLE, Int.reduceLT, Int.reduceAdd, Int.reduceSub, Int.reduceMul, Int.reduceNeg, Int.reduceToNat, Int.reducePow, Int.reduceMod, Int.reduceDiv, Int.cast_ofNat_Int, Int.reduceBEq, i64w, decide_true, decide_false, Int.le_refl, Nat.min_def, reduceIte, Int.one_mul, bits64, Int.natCast_add]
  exact ⟨he, hR.flat rfl (Nat.zero_le _)⟩
end Go.Proofs.Ytnfbgfmdjaodgaa.ScriptRun
