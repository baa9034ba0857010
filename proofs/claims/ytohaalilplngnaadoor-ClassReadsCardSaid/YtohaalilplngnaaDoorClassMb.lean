/- Words of numbers. -/
import Derived.Test.YtohaalilplngnaaDoorClassUtil
import Derived.Test.YtohaalilplngnaaDoorClassMa
import Derived.Lib.Split
import Derived.Lib.CountLaws
import Derived.Lib.SplitLaws
import Derived.Lib.CutLaws
import Derived.Lib.IndexBytes
set_option linter.unusedVariables false
set_option linter.unusedSimpArgs false
open Go Go.Proofs.YtohaalilplngnaaDoor.Eng Go.RowKit
namespace Go.Proofs.YtohaalilplngnaaDoor.ClassRun
def head58 (s : ByteArray) (b m : Int) (most : Int) : Nat → Option Head := fun r => match r with
  | 3 => some (Head.one (Get.and (Get.int 10) (Get.and (Get.int 11) (Get.pos 0))) fun q => ⟨[.s s, .i .i64 b, .i .i64 m, .i .i64 most] ++ bads 6 ++ [.i .i64 q.1, .i .i64 q.2.1] ++ bads 4 ++ [.p 0 0] ++ bads 61, [.iter s q.2.2]⟩)
  | _ => none
theorem vc58d (s : ByteArray) (most : Int) (R : AV → Hp → Prop) : (wpFn P tnil noW (head58 s 10 3 most) 0 Go.Proofs.Tryd.f58 [.s s, .i .i64 10, .i .i64 3, .i .i64 most] [] R) = (Wk (0 : Nat) { t := [AV.s s, AV.i IntKind.i64 (10 : Int), AV.i IntKind.i64 (3 : Int), AV.i IntKind.i64 most, .bad, .bad, .bad, .bad, .bad, .bad, AV.i IntKind.i64 (0 : Int), AV.i IntKind.i64 (0 : Int), .bad, .bad, .bad, .bad, AV.p (0 : Nat) (0 : Nat), .bad, .bad, .bad, .bad, .bad, .bad, .bad, .bad, .bad, .bad, .bad, .bad, .bad, .bad, .bad, .bad, .bad, .bad, .bad, .bad, .bad, .bad, .bad, .bad, .bad, .bad, .bad, .bad, .bad, .bad, .bad, .bad, .bad, .bad, .bad, .bad, .bad, .bad, .bad, .bad, .bad, .bad, .bad, .bad, .bad, .bad, .bad, .bad, .bad, .bad, .bad, .bad, .bad, .bad, .bad, .bad, .bad, .bad, .bad, .bad, .bad], h := [Blk.iter s (0 : Nat)] } { t := [AV.s s, AV.i IntKind.i64 (10 : Int), AV.i IntKind.i64 (3 : Int), AV.i IntKind.i64 most, .bad, .bad, .bad, .bad, .bad, .bad, AV.i IntKind.i64 (0 : Int), AV.i IntKind.i64 (0 : Int), .bad, .bad, .bad, .bad, AV.p (0 : Nat) (0 : Nat), .bad, .bad, .bad, .bad, .bad, .bad, .bad, .bad, .bad, .bad, .bad, .bad, .bad, .bad, .bad, .bad, .bad, .bad, .bad, .bad, .bad, .bad, .bad, .bad, .bad, .bad, .bad, .bad, .bad, .bad, .bad, .bad, .bad, .bad, .bad, .bad, .bad, .bad, .bad, .bad, .bad, .bad, .bad, .bad, .bad, .bad, .bad, .bad, .bad, .bad, .bad, .bad, .bad, .bad, .bad, .bad, .bad, .bad, .bad, .bad, .bad], h := [Blk.iter s (0 : Nat)] } ∧ ∃ (I : Nat → Int × Int × Nat → Prop), ∃ (n : Nat), I n ((0 : Int), (0 : Int), (0 : Nat)) ∧ ∀ (a : Int × Int × Nat) (n : Nat), I n a → br (decide (Prod.snd (Prod.snd a) < ByteArray.size s)) (∀ (r n_1 : Nat), Holds (Utf8.decode s (Prod.snd (Prod.snd a)) = (r, n_1)) → br (decide ((↑r : Int) ≥ (48 : Int))) (br (decide ((↑r : Int) ≤ (57 : Int))) (br (decide (IntKind.wrap IntKind.i64 (Prod.fst (Prod.snd a) + (1 : Int)) > (3 : Int))) (R (AV.tu [AV.i IntKind.i64 (0 : Int), AV.bo false]) [Blk.iter s (Prod.snd (Prod.snd a) + n_1)]) (Wk (0 : Nat) { t := [AV.s s, AV.i IntKind.i64 (10 : Int), AV.i IntKind.i64 (3 : Int), AV.i IntKind.i64 most, .bad, .bad, .bad, .bad, .bad, .bad, AV.i IntKind.i64 (IntKind.wrap IntKind.i64 (IntKind.wrap IntKind.i64 (Prod.fst a * (10 : Int)) + IntKind.wrap IntKind.i64 (IntKind.wrap IntKind.i32 ((↑r : Int) - (48 : Int))))), AV.i IntKind.i64 (IntKind.wrap IntKind.i64 (Prod.fst (Prod.snd a) + (1 : Int))), .bad, .bad, .bad, .bad, AV.p (0 : Nat) (0 : Nat), .bad, .bad, .bad, .bad, .bad, .bad, .bad, .bad, .bad, .bad, .bad, .bad, .bad, .bad, .bad, .bad, .bad, .bad, .bad, .bad, .bad, .bad, .bad, .bad, .bad, .bad, .bad, .bad, .bad, .bad, .bad, .bad, .bad, .bad, .bad, .bad, .bad, .bad, .bad, .bad, .bad, .bad, .bad, .bad, .bad, .bad, .bad, .bad, .bad, .bad, .bad, .bad, .bad, .bad, .bad, .bad, .bad, .bad, .bad, .bad, .bad], h := [Blk.iter s (Prod.snd (Prod.snd a) + n_1)] } { t := [AV.s s, AV.i IntKind.i64 (10 : Int), AV.i IntKind.i64 (3 : Int), AV.i IntKind.i64 most, .bad, .bad, .bad, .bad, .bad, .bad, AV.i IntKind.i64 (IntKind.wrap IntKind.i64 (IntKind.wrap IntKind.i64 (Prod.fst a * (10 : Int)) + IntKind.wrap IntKind.i64 (IntKind.wrap IntKind.i32 ((↑r : Int) - (48 : Int))))), AV.i IntKind.i64 (IntKind.wrap IntKind.i64 (Prod.fst (Prod.snd a) + (1 : Int))), .bad, .bad, .bad, .bad, AV.p (0 : Nat) (0 : Nat), .bad, .bad, .bad, .bad, .bad, .bad, .bad, .bad, .bad, .bad, .bad, .bad, .bad, .bad, .bad, .bad, .bad, .bad, .bad, .bad, .bad, .bad, .bad, .bad, .bad, .bad, .bad, .bad, .bad, .bad, .bad, .bad, .bad, .bad, .bad, .bad, .bad, .bad, .bad, .bad, .bad, .bad, .bad, .bad, .bad, .bad, .bad, .bad, .bad, .bad, .bad, .bad, .bad, .bad, .bad, .bad, .bad, .bad, .bad, .bad, .bad], h := [Blk.iter s (Prod.snd (Prod.snd a) + n_1)] } ∧ ∃ (m : Nat), Holds (m < n) ∧ I m (IntKind.wrap IntKind.i64 (IntKind.wrap IntKind.i64 (Prod.fst a * (10 : Int)) + IntKind.wrap IntKind.i64 (IntKind.wrap IntKind.i32 ((↑r : Int) - (48 : Int)))), IntKind.wrap IntKind.i64 (Prod.fst (Prod.snd a) + (1 : Int)), Prod.snd (Prod.snd a) + n_1))) (R (AV.tu [AV.i IntKind.i64 (0 : Int), AV.bo false]) [Blk.iter s (Prod.snd (Prod.snd a) + n_1)])) (R (AV.tu [AV.i IntKind.i64 (0 : Int), AV.bo false]) [Blk.iter s (Prod.snd (Prod.snd a) + n_1)])) (br (decide (Prod.fst (Prod.snd a) > (0 : Int))) (R (AV.tu [AV.i IntKind.i64 (Prod.fst a), AV.bo (decide (Prod.fst a ≤ most))]) [Blk.iter s (Prod.snd (Prod.snd a))]) (R (AV.tu [AV.i IntKind.i64 (Prod.fst a), AV.bo false]) [Blk.iter s (Prod.snd (Prod.snd a))]))) := by kernel_rfl
set_option maxRecDepth 100000 in
theorem vc58h (s : ByteArray) (most : Int) (R : AV → Hp → Prop) : (wpFn P tnil noW (head58 s 16 4 most) 0 Go.Proofs.Tryd.f58 [.s s, .i .i64 16, .i .i64 4, .i .i64 most] [] R) = (Wk (0 : Nat) { t := [AV.s s, AV.i IntKind.i64 (16 : Int), AV.i IntKind.i64 (4 : Int), AV.i IntKind.i64 most, .bad, .bad, .bad, .bad, .bad, .bad, AV.i IntKind.i64 (0 : Int), AV.i IntKind.i64 (0 : Int), .bad, .bad, .bad, .bad, AV.p (0 : Nat) (0 : Nat), .bad, .bad, .bad, .bad, .bad, .bad, .bad, .bad, .bad, .bad, .bad, .bad, .bad, .bad, .bad, .bad, .bad, .bad, .bad, .bad, .bad, .bad, .bad, .bad, .bad, .bad, .bad, .bad, .bad, .bad, .bad, .bad, .bad, .bad, .bad, .bad, .bad, .bad, .bad, .bad, .bad, .bad, .bad, .bad, .bad, .bad, .bad, .bad, .bad, .bad, .bad, .bad, .bad, .bad, .bad, .bad, .bad, .bad, .bad, .bad, .bad], h := [Blk.iter s (0 : Nat)] } { t := [AV.s s, AV.i IntKind.i64 (16 : Int), AV.i IntKind.i64 (4 : Int), AV.i IntKind.i64 most, .bad, .bad, .bad, .bad, .bad, .bad, AV.i IntKind.i64 (0 : Int), AV.i IntKind.i64 (0 : Int), .bad, .bad, .bad, .bad, AV.p (0 : Nat) (0 : Nat), .bad, .bad, .bad, .bad, .bad, .bad, .bad, .bad, .bad, .bad, .bad, .bad, .bad, .bad, .bad, .bad, .bad, .bad, .bad, .bad, .bad, .bad, .bad, .bad, .bad, .bad, .bad, .bad, .bad, .bad, .bad, .bad, .bad, .bad, .bad, .bad, .bad, .bad, .bad, .bad, .bad, .bad, .bad, .bad, .bad, .bad, .bad, .bad, .bad, .bad, .bad, .bad, .bad, .bad, .bad, .bad, .bad, .bad, .bad, .bad, .bad], h := [Blk.iter s (0 : Nat)] } ∧ ∃ (I : Nat → Int × Int × Nat → Prop), ∃ (n : Nat), I n ((0 : Int), (0 : Int), (0 : Nat)) ∧ ∀ (a : Int × Int × Nat) (n : Nat), I n a → br (decide (Prod.snd (Prod.snd a) < ByteArray.size s)) (∀ (r n_1 : Nat), Holds (Utf8.decode s (Prod.snd (Prod.snd a)) = (r, n_1)) → br (decide ((↑r : Int) ≥ (48 : Int))) (br (decide ((↑r : Int) ≤ (57 : Int))) (br (decide (IntKind.wrap IntKind.i64 (Prod.fst (Prod.snd a) + (1 : Int)) > (4 : Int))) (R (AV.tu [AV.i IntKind.i64 (0 : Int), AV.bo false]) [Blk.iter s (Prod.snd (Prod.snd a) + n_1)]) (Wk (0 : Nat) { t := [AV.s s, AV.i IntKind.i64 (16 : Int), AV.i IntKind.i64 (4 : Int), AV.i IntKind.i64 most, .bad, .bad, .bad, .bad, .bad, .bad, AV.i IntKind.i64 (IntKind.wrap IntKind.i64 (IntKind.wrap IntKind.i64 (Prod.fst a * (16 : Int)) + IntKind.wrap IntKind.i64 (IntKind.wrap IntKind.i32 ((↑r : Int) - (48 : Int))))), AV.i IntKind.i64 (IntKind.wrap IntKind.i64 (Prod.fst (Prod.snd a) + (1 : Int))), .bad, .bad, .bad, .bad, AV.p (0 : Nat) (0 : Nat), .bad, .bad, .bad, .bad, .bad, .bad, .bad, .bad, .bad, .bad, .bad, .bad, .bad, .bad, .bad, .bad, .bad, .bad, .bad, .bad, .bad, .bad, .bad, .bad, .bad, .bad, .bad, .bad, .bad, .bad, .bad, .bad, .bad, .bad, .bad, .bad, .bad, .bad, .bad, .bad, .bad, .bad, .bad, .bad, .bad, .bad, .bad, .bad, .bad, .bad, .bad, .bad, .bad, .bad, .bad, .bad, .bad, .bad, .bad, .bad, .bad], h := [Blk.iter s (Prod.snd (Prod.snd a) + n_1)] } { t := [AV.s s, AV.i IntKind.i64 (16 : Int), AV.i IntKind.i64 (4 : Int), AV.i IntKind.i64 most, .bad, .bad, .bad, .bad, .bad, .bad, AV.i IntKind.i64 (IntKind.wrap IntKind.i64 (IntKind.wrap IntKind.i64 (Prod.fst a * (16 : Int)) + IntKind.wrap IntKind.i64 (IntKind.wrap IntKind.i32 ((↑r : Int) - (48 : Int))))), AV.i IntKind.i64 (IntKind.wrap IntKind.i64 (Prod.fst (Prod.snd a) + (1 : Int))), .bad, .bad, .bad, .bad, AV.p (0 : Nat) (0 : Nat), .bad, .bad, .bad, .bad, .bad, .bad, .bad, .bad, .bad, .bad, .bad, .bad, .bad, .bad, .bad, .bad, .bad, .bad, .bad, .bad, .bad, .bad, .bad, .bad, .bad, .bad, .bad, .bad, .bad, .bad, .bad, .bad, .bad, .bad, .bad, .bad, .bad, .bad, .bad, .bad, .bad, .bad, .bad, .bad, .bad, .bad, .bad, .bad, .bad, .bad, .bad, .bad, .bad, .bad, .bad, .bad, .bad, .bad, .bad, .bad, .bad], h := [Blk.iter s (Prod.snd (Prod.snd a) + n_1)] } ∧ ∃ (m : Nat), Holds (m < n) ∧ I m (IntKind.wrap IntKind.i64 (IntKind.wrap IntKind.i64 (Prod.fst a * (16 : Int)) + IntKind.wrap IntKind.i64 (IntKind.wrap IntKind.i32 ((↑r : Int) - (48 : Int)))), IntKind.wrap IntKind.i64 (Prod.fst (Prod.snd a) + (1 : Int)), Prod.snd (Prod.snd a) + n_1))) (br (decide ((↑r : Int) ≥ (97 : Int))) (br (decide ((↑r : Int) ≤ (102 : Int))) (br (decide (IntKind.wrap IntKind.i64 (Prod.fst (Prod.snd a) + (1 : Int)) > (4 : Int))) (R (AV.tu [AV.i IntKind.i64 (0 : Int), AV.bo false]) [Blk.iter s (Prod.snd (Prod.snd a) + n_1)]) (Wk (0 : Nat) { t := [AV.s s, AV.i IntKind.i64 (16 : Int), AV.i IntKind.i64 (4 : Int), AV.i IntKind.i64 most, .bad, .bad, .bad, .bad, .bad, .bad, AV.i IntKind.i64 (IntKind.wrap IntKind.i64 (IntKind.wrap IntKind.i64 (Prod.fst a * (16 : Int)) + IntKind.wrap IntKind.i64 (IntKind.wrap IntKind.i64 (IntKind.wrap IntKind.i32 ((↑r : Int) - (97 : Int))) + (10 : Int)))), AV.i IntKind.i64 (IntKind.wrap IntKind.i64 (Prod.fst (Prod.snd a) + (1 : Int))), .bad, .bad, .bad, .bad, AV.p (0 : Nat) (0 : Nat), .bad, .bad, .bad, .bad, .bad, .bad, .bad, .bad, .bad, .bad, .bad, .bad, .bad, .bad, .bad, .bad, .bad, .bad, .bad, .bad, .bad, .bad, .bad, .bad, .bad, .bad, .bad, .bad, .bad, .bad, .bad, .bad, .bad, .bad, .bad, .bad, .bad, .bad, .bad, .bad, .bad, .bad, .bad, .bad, .bad, .bad, .bad, .bad, .bad, .bad, .bad, .bad, .bad, .bad, .bad, .bad, .bad, .bad, .bad, .bad, .bad], h := [Blk.iter s (Prod.snd (Prod.snd a) + n_1)] } { t := [AV.s s, AV.i IntKind.i64 (16 : Int), AV.i IntKind.i64 (4 : Int), AV.i IntKind.i64 most, .bad, .bad, .bad, .bad, .bad, .bad, AV.i IntKind.i64 (IntKind.wrap IntKind.i64 (IntKind.wrap IntKind.i64 (Prod.fst a * (16 : Int)) + IntKind.wrap IntKind.i64 (IntKind.wrap IntKind.i64 (IntKind.wrap IntKind.i32 ((↑r : Int) - (97 : Int))) + (10 : Int)))), AV.i IntKind.i64 (IntKind.wrap IntKind.i64 (Prod.fst (Prod.snd a) + (1 : Int))), .bad, .bad, .bad, .bad, AV.p (0 : Nat) (0 : Nat), .bad, .bad, .bad, .bad, .bad, .bad, .bad, .bad, .bad, .bad, .bad, .bad, .bad, .bad, .bad, .bad, .bad, .bad, .bad, .bad, .bad, .bad, .bad, .bad, .bad, .bad, .bad, .bad, .bad, .bad, .bad, .bad, .bad, .bad, .bad, .bad, .bad, .bad, .bad, .bad, .bad, .bad, .bad, .bad, .bad, .bad, .bad, .bad, .bad, .bad, .bad, .bad, .bad, .bad, .bad, .bad, .bad, .bad, .bad, .bad, .bad], h := [Blk.iter s (Prod.snd (Prod.snd a) + n_1)] } ∧ ∃ (m : Nat), Holds (m < n) ∧ I m (IntKind.wrap IntKind.i64 (IntKind.wrap IntKind.i64 (Prod.fst a * (16 : Int)) + IntKind.wrap IntKind.i64 (IntKind.wrap IntKind.i64 (IntKind.wrap IntKind.i32 ((↑r : Int) - (97 : Int))) + (10 : Int))), IntKind.wrap IntKind.i64 (Prod.fst (Prod.snd a) + (1 : Int)), Prod.snd (Prod.snd a) + n_1))) (br (decide ((↑r : Int) ≥ (65 : Int))) (br (decide ((↑r : Int) ≤ (70 : Int))) (br (decide (IntKind.wrap IntKind.i64 (Prod.fst (Prod.snd a) + (1 : Int)) > (4 : Int))) (R (AV.tu [AV.i IntKind.i64 (0 : Int), AV.bo false]) [Blk.iter s (Prod.snd (Prod.snd a) + n_1)]) (Wk (0 : Nat) { t := [AV.s s, AV.i IntKind.i64 (16 : Int), AV.i IntKind.i64 (4 : Int), AV.i IntKind.i64 most, .bad, .bad, .bad, .bad, .bad, .bad, AV.i IntKind.i64 (IntKind.wrap IntKind.i64 (IntKind.wrap IntKind.i64 (Prod.fst a * (16 : Int)) + IntKind.wrap IntKind.i64 (IntKind.wrap IntKind.i64 (IntKind.wrap IntKind.i32 ((↑r : Int) - (65 : Int))) + (10 : Int)))), AV.i IntKind.i64 (IntKind.wrap IntKind.i64 (Prod.fst (Prod.snd a) + (1 : Int))), .bad, .bad, .bad, .bad, AV.p (0 : Nat) (0 : Nat), .bad, .bad, .bad, .bad, .bad, .bad, .bad, .bad, .bad, .bad, .bad, .bad, .bad, .bad, .bad, .bad, .bad, .bad, .bad, .bad, .bad, .bad, .bad, .bad, .bad, .bad, .bad, .bad, .bad, .bad, .bad, .bad, .bad, .bad, .bad, .bad, .bad, .bad, .bad, .bad, .bad, .bad, .bad, .bad, .bad, .bad, .bad, .bad, .bad, .bad, .bad, .bad, .bad, .bad, .bad, .bad, .bad, .bad, .bad, .bad, .bad], h := [Blk.iter s (Prod.snd (Prod.snd a) + n_1)] } { t := [AV.s s, AV.i IntKind.i64 (16 : Int), AV.i IntKind.i64 (4 : Int), AV.i IntKind.i64 most, .bad, .bad, .bad, .bad, .bad, .bad, AV.i IntKind.i64 (IntKind.wrap IntKind.i64 (IntKind.wrap IntKind.i64 (Prod.fst a * (16 : Int)) + IntKind.wrap IntKind.i64 (IntKind.wrap IntKind.i64 (IntKind.wrap IntKind.i32 ((↑r : Int) - (65 : Int))) + (10 : Int)))), AV.i IntKind.i64 (IntKind.wrap IntKind.i64 (Prod.fst (Prod.snd a) + (1 : Int))), .bad, .bad, .bad, .bad, AV.p (0 : Nat) (0 : Nat), .bad, .bad, .bad, .bad, .bad, .bad, .bad, .bad, .bad, .bad, .bad, .bad, .bad, .bad, .bad, .bad, .bad, .bad, .bad, .bad, .bad, .bad, .bad, .bad, .bad, .bad, .bad, .bad, .bad, .bad, .bad, .bad, .bad, .bad, .bad, .bad, .bad, .bad, .bad, .bad, .bad, .bad, .bad, .bad, .bad, .bad, .bad, .bad, .bad, .bad, .bad, .bad, .bad, .bad, .bad, .bad, .bad, .bad, .bad, .bad, .bad], h := [Blk.iter s (Prod.snd (Prod.snd a) + n_1)] } ∧ ∃ (m : Nat), Holds (m < n) ∧ I m (IntKind.wrap IntKind.i64 (IntKind.wrap IntKind.i64 (Prod.fst a * (16 : Int)) + IntKind.wrap IntKind.i64 (IntKind.wrap IntKind.i64 (IntKind.wrap IntKind.i32 ((↑r : Int) - (65 : Int))) + (10 : Int))), IntKind.wrap IntKind.i64 (Prod.fst (Prod.snd a) + (1 : Int)), Prod.snd (Prod.snd a) + n_1))) (R (AV.tu [AV.i IntKind.i64 (0 : Int), AV.bo false]) [Blk.iter s (Prod.snd (Prod.snd a) + n_1)])) (R (AV.tu [AV.i IntKind.i64 (0 : Int), AV.bo false]) [Blk.iter s (Prod.snd (Prod.snd a) + n_1)]))) (br (decide ((↑r : Int) ≥ (65 : Int))) (br (decide ((↑r : Int) ≤ (70 : Int))) (br (decide (IntKind.wrap IntKind.i64 (Prod.fst (Prod.snd a) + (1 : Int)) > (4 : Int))) (R (AV.tu [AV.i IntKind.i64 (0 : Int), AV.bo false]) [Blk.iter s (Prod.snd (Prod.snd a) + n_1)]) (Wk (0 : Nat) { t := [AV.s s, AV.i IntKind.i64 (16 : Int), AV.i IntKind.i64 (4 : Int), AV.i IntKind.i64 most, .bad, .bad, .bad, .bad, .bad, .bad, AV.i IntKind.i64 (IntKind.wrap IntKind.i64 (IntKind.wrap IntKind.i64 (Prod.fst a * (16 : Int)) + IntKind.wrap IntKind.i64 (IntKind.wrap IntKind.i64 (IntKind.wrap IntKind.i32 ((↑r : Int) - (65 : Int))) + (10 : Int)))), AV.i IntKind.i64 (IntKind.wrap IntKind.i64 (Prod.fst (Prod.snd a) + (1 : Int))), .bad, .bad, .bad, .bad, AV.p (0 : Nat) (0 : Nat), .bad, .bad, .bad, .bad, .bad, .bad, .bad, .bad, .bad, .bad, .bad, .bad, .bad, .bad, .bad, .bad, .bad, .bad, .bad, .bad, .bad, .bad, .bad, .bad, .bad, .bad, .bad, .bad, .bad, .bad, .bad, .bad, .bad, .bad, .bad, .bad, .bad, .bad, .bad, .bad, .bad, .bad, .bad, .bad, .bad, .bad, .bad, .bad, .bad, .bad, .bad, .bad, .bad, .bad, .bad, .bad, .bad, .bad, .bad, .bad, .bad], h := [Blk.iter s (Prod.snd (Prod.snd a) + n_1)] } { t := [AV.s s, AV.i IntKind.i64 (16 : Int), AV.i IntKind.i64 (4 : Int), AV.i IntKind.i64 most, .bad, .bad, .bad, .bad, .bad, .bad, AV.i IntKind.i64 (IntKind.wrap IntKind.i64 (IntKind.wrap IntKind.i64 (Prod.fst a * (16 : Int)) + IntKind.wrap IntKind.i64 (IntKind.wrap IntKind.i64 (IntKind.wrap IntKind.i32 ((↑r : Int) - (65 : Int))) + (10 : Int)))), AV.i IntKind.i64 (IntKind.wrap IntKind.i64 (Prod.fst (Prod.snd a) + (1 : Int))), .bad, .bad, .bad, .bad, AV.p (0 : Nat) (0 : Nat), .bad, .bad, .bad, .bad, .bad, .bad, .bad, .bad, .bad, .bad, .bad, .bad, .bad, .bad, .bad, .bad, .bad, .bad, .bad, .bad, .bad, .bad, .bad, .bad, .bad, .bad, .bad, .bad, .bad, .bad, .bad, .bad, .bad, .bad, .bad, .bad, .bad, .bad, .bad, .bad, .bad, .bad, .bad, .bad, .bad, .bad, .bad, .bad, .bad, .bad, .bad, .bad, .bad, .bad, .bad, .bad, .bad, .bad, .bad, .bad, .bad], h := [Blk.iter s (Prod.snd (Prod.snd a) + n_1)] } ∧ ∃ (m : Nat), Holds (m < n) ∧ I m (IntKind.wrap IntKind.i64 (IntKind.wrap IntKind.i64 (Prod.fst a * (16 : Int)) + IntKind.wrap IntKind.i64 (IntKind.wrap IntKind.i64 (IntKind.wrap IntKind.i32 ((↑r : Int) - (65 : Int))) + (10 : Int))), IntKind.wrap IntKind.i64 (Prod.fst (Prod.snd a) + (1 : Int)), Prod.snd (Prod.snd a) + n_1))) (R (AV.tu [AV.i IntKind.i64 (0 : Int), AV.bo false]) [Blk.iter s (Prod.snd (Prod.snd a) + n_1)])) (R (AV.tu [AV.i IntKind.i64 (0 : Int), AV.bo false]) [Blk.iter s (Prod.snd (Prod.snd a) + n_1)])))) (br (decide ((↑r : Int) ≥ (97 : Int))) (br (decide ((↑r : Int) ≤ (102 : Int))) (br (decide (IntKind.wrap IntKind.i64 (Prod.fst (Prod.snd a) + (1 : Int)) > (4 : Int))) (R (AV.tu [AV.i IntKind.i64 (0 : Int), AV.bo false]) [Blk.iter s (Prod.snd (Prod.snd a) + n_1)]) (Wk (0 : Nat) { t := [AV.s s, AV.i IntKind.i64 (16 : Int), AV.i IntKind.i64 (4 : Int), AV.i IntKind.i64 most, .bad, .bad, .bad, .bad, .bad, .bad, AV.i IntKind.i64 (IntKind.wrap IntKind.i64 (IntKind.wrap IntKind.i64 (Prod.fst a * (16 : Int)) + IntKind.wrap IntKind.i64 (IntKind.wrap IntKind.i64 (IntKind.wrap IntKind.i32 ((↑r : Int) - (97 : Int))) + (10 : Int)))), AV.i IntKind.i64 (IntKind.wrap IntKind.i64 (Prod.fst (Prod.snd a) + (1 : Int))), .bad, .bad, .bad, .bad, AV.p (0 : Nat) (0 : Nat), .bad, .bad, .bad, .bad, .bad, .bad, .bad, .bad, .bad, .bad, .bad, .bad, .bad, .bad, .bad, .bad, .bad, .bad, .bad, .bad, .bad, .bad, .bad, .bad, .bad, .bad, .bad, .bad, .bad, .bad, .bad, .bad, .bad, .bad, .bad, .bad, .bad, .bad, .bad, .bad, .bad, .bad, .bad, .bad, .bad, .bad, .bad, .bad, .bad, .bad, .bad, .bad, .bad, .bad, .bad, .bad, .bad, .bad, .bad, .bad, .bad], h := [Blk.iter s (Prod.snd (Prod.snd a) + n_1)] } { t := [AV.s s, AV.i IntKind.i64 (16 : Int), AV.i IntKind.i64 (4 : Int), AV.i IntKind.i64 most, .bad, .bad, .bad, .bad, .bad, .bad, AV.i IntKind.i64 (IntKind.wrap IntKind.i64 (IntKind.wrap IntKind.i64 (Prod.fst a * (16 : Int)) + IntKind.wrap IntKind.i64 (IntKind.wrap IntKind.i64 (IntKind.wrap IntKind.i32 ((↑r : Int) - (97 : Int))) + (10 : Int)))), AV.i IntKind.i64 (IntKind.wrap IntKind.i64 (Prod.fst (Prod.snd a) + (1 : Int))), .bad, .bad, .bad, .bad, AV.p (0 : Nat) (0 : Nat), .bad, .bad, .bad, .bad, .bad, .bad, .bad, .bad, .bad, .bad, .bad, .bad, .bad, .bad, .bad, .bad, .bad, .bad, .bad, .bad, .bad, .bad, .bad, .bad, .bad, .bad, .bad, .bad, .bad, .bad, .bad, .bad, .bad, .bad, .bad, .bad, .bad, .bad, .bad, .bad, .bad, .bad, .bad, .bad, .bad, .bad, .bad, .bad, .bad, .bad, .bad, .bad, .bad, .bad, .bad, .bad, .bad, .bad, .bad, .bad, .bad], h := [Blk.iter s (Prod.snd (Prod.snd a) + n_1)] } ∧ ∃ (m : Nat), Holds (m < n) ∧ I m (IntKind.wrap IntKind.i64 (IntKind.wrap IntKind.i64 (Prod.fst a * (16 : Int)) + IntKind.wrap IntKind.i64 (IntKind.wrap IntKind.i64 (IntKind.wrap IntKind.i32 ((↑r : Int) - (97 : Int))) + (10 : Int))), IntKind.wrap IntKind.i64 (Prod.fst (Prod.snd a) + (1 : Int)), Prod.snd (Prod.snd a) + n_1))) (br (decide ((↑r : Int) ≥ (65 : Int))) (br (decide ((↑r : Int) ≤ (70 : Int))) (br (decide (IntKind.wrap IntKind.i64 (Prod.fst (Prod.snd a) + (1 : Int)) > (4 : Int))) (R (AV.tu [AV.i IntKind.i64 (0 : Int), AV.bo false]) [Blk.iter s (Prod.snd (Prod.snd a) + n_1)]) (Wk (0 : Nat) { t := [AV.s s, AV.i IntKind.i64 (16 : Int), AV.i IntKind.i64 (4 : Int), AV.i IntKind.i64 most, .bad, .bad, .bad, .bad, .bad, .bad, AV.i IntKind.i64 (IntKind.wrap IntKind.i64 (IntKind.wrap IntKind.i64 (Prod.fst a * (16 : Int)) + IntKind.wrap IntKind.i64 (IntKind.wrap IntKind.i64 (IntKind.wrap IntKind.i32 ((↑r : Int) - (65 : Int))) + (10 : Int)))), AV.i IntKind.i64 (IntKind.wrap IntKind.i64 (Prod.fst (Prod.snd a) + (1 : Int))), .bad, .bad, .bad, .bad, AV.p (0 : Nat) (0 : Nat), .bad, .bad, .bad, .bad, .bad, .bad, .bad, .bad, .bad, .bad, .bad, .bad, .bad, .bad, .bad, .bad, .bad, .bad, .bad, .bad, .bad, .bad, .bad, .bad, .bad, .bad, .bad, .bad, .bad, .bad, .bad, .bad, .bad, .bad, .bad, .bad, .bad, .bad, .bad, .bad, .bad, .bad, .bad, .bad, .bad, .bad, .bad, .bad, .bad, .bad, .bad, .bad, .bad, .bad, .bad, .bad, .bad, .bad, .bad, .bad, .bad], h := [Blk.iter s (Prod.snd (Prod.snd a) + n_1)] } { t := [AV.s s, AV.i IntKind.i64 (16 : Int), AV.i IntKind.i64 (4 : Int), AV.i IntKind.i64 most, .bad, .bad, .bad, .bad, .bad, .bad, AV.i IntKind.i64 (IntKind.wrap IntKind.i64 (IntKind.wrap IntKind.i64 (Prod.fst a * (16 : Int)) + IntKind.wrap IntKind.i64 (IntKind.wrap IntKind.i64 (IntKind.wrap IntKind.i32 ((↑r : Int) - (65 : Int))) + (10 : Int)))), AV.i IntKind.i64 (IntKind.wrap IntKind.i64 (Prod.fst (Prod.snd a) + (1 : Int))), .bad, .bad, .bad, .bad, AV.p (0 : Nat) (0 : Nat), .bad, .bad, .bad, .bad, .bad, .bad, .bad, .bad, .bad, .bad, .bad, .bad, .bad, .bad, .bad, .bad, .bad, .bad, .bad, .bad, .bad, .bad, .bad, .bad, .bad, .bad, .bad, .bad, .bad, .bad, .bad, .bad, .bad, .bad, .bad, .bad, .bad, .bad, .bad, .bad, .bad, .bad, .bad, .bad, .bad, .bad, .bad, .bad, .bad, .bad, .bad, .bad, .bad, .bad, .bad, .bad, .bad, .bad, .bad, .bad, .bad], h := [Blk.iter s (Prod.snd (Prod.snd a) + n_1)] } ∧ ∃ (m : Nat), Holds (m < n) ∧ I m (IntKind.wrap IntKind.i64 (IntKind.wrap IntKind.i64 (Prod.fst a * (16 : Int)) + IntKind.wrap IntKind.i64 (IntKind.wrap IntKind.i64 (IntKind.wrap IntKind.i32 ((↑r : Int) - (65 : Int))) + (10 : Int))), IntKind.wrap IntKind.i64 (Prod.fst (Prod.snd a) + (1 : Int)), Prod.snd (Prod.snd a) + n_1))) (R (AV.tu [AV.i IntKind.i64 (0 : Int), AV.bo false]) [Blk.iter s (Prod.snd (Prod.snd a) + n_1)])) (R (AV.tu [AV.i IntKind.i64 (0 : Int), AV.bo false]) [Blk.iter s (Prod.snd (Prod.snd a) + n_1)]))) (br (decide ((↑r : Int) ≥ (65 : Int))) (br (decide ((↑r : Int) ≤ (70 : Int))) (br (decide (IntKind.wrap IntKind.i64 (Prod.fst (Prod.snd a) + (1 : Int)) > (4 : Int))) (R (AV.tu [AV.i IntKind.i64 (0 : Int), AV.bo false]) [Blk.iter s (Prod.snd (Prod.snd a) + n_1)]) (Wk (0 : Nat) { t := [AV.s s, AV.i IntKind.i64 (16 : Int), AV.i IntKind.i64 (4 : Int), AV.i IntKind.i64 most, .bad, .bad, .bad, .bad, .bad, .bad, AV.i IntKind.i64 (IntKind.wrap IntKind.i64 (IntKind.wrap IntKind.i64 (Prod.fst a * (16 : Int)) + IntKind.wrap IntKind.i64 (IntKind.wrap IntKind.i64 (IntKind.wrap IntKind.i32 ((↑r : Int) - (65 : Int))) + (10 : Int)))), AV.i IntKind.i64 (IntKind.wrap IntKind.i64 (Prod.fst (Prod.snd a) + (1 : Int))), .bad, .bad, .bad, .bad, AV.p (0 : Nat) (0 : Nat), .bad, .bad, .bad, .bad, .bad, .bad, .bad, .bad, .bad, .bad, .bad, .bad, .bad, .bad, .bad, .bad, .bad, .bad, .bad, .bad, .bad, .bad, .bad, .bad, .bad, .bad, .bad, .bad, .bad, .bad, .bad, .bad, .bad, .bad, .bad, .bad, .bad, .bad, .bad, .bad, .bad, .bad, .bad, .bad, .bad, .bad, .bad, .bad, .bad, .bad, .bad, .bad, .bad, .bad, .bad, .bad, .bad, .bad, .bad, .bad, .bad], h := [Blk.iter s (Prod.snd (Prod.snd a) + n_1)] } { t := [AV.s s, AV.i IntKind.i64 (16 : Int), AV.i IntKind.i64 (4 : Int), AV.i IntKind.i64 most, .bad, .bad, .bad, .bad, .bad, .bad, AV.i IntKind.i64 (IntKind.wrap IntKind.i64 (IntKind.wrap IntKind.i64 (Prod.fst a * (16 : Int)) + IntKind.wrap IntKind.i64 (IntKind.wrap IntKind.i64 (IntKind.wrap IntKind.i32 ((↑r : Int) - (65 : Int))) + (10 : Int)))), AV.i IntKind.i64 (IntKind.wrap IntKind.i64 (Prod.fst (Prod.snd a) + (1 : Int))), .bad, .bad, .bad, .bad, AV.p (0 : Nat) (0 : Nat), .bad, .bad, .bad, .bad, .bad, .bad, .bad, .bad, .bad, .bad, .bad, .bad, .bad, .bad, .bad, .bad, .bad, .bad, .bad, .bad, .bad, .bad, .bad, .bad, .bad, .bad, .bad, .bad, .bad, .bad, .bad, .bad, .bad, .bad, .bad, .bad, .bad, .bad, .bad, .bad, .bad, .bad, .bad, .bad, .bad, .bad, .bad, .bad, .bad, .bad, .bad, .bad, .bad, .bad, .bad, .bad, .bad, .bad, .bad, .bad, .bad], h := [Blk.iter s (Prod.snd (Prod.snd a) + n_1)] } ∧ ∃ (m : Nat), Holds (m < n) ∧ I m (IntKind.wrap IntKind.i64 (IntKind.wrap IntKind.i64 (Prod.fst a * (16 : Int)) + IntKind.wrap IntKind.i64 (IntKind.wrap IntKind.i64 (IntKind.wrap IntKind.i32 ((↑r : Int) - (65 : Int))) + (10 : Int))), IntKind.wrap IntKind.i64 (Prod.fst (Prod.snd a) + (1 : Int)), Prod.snd (Prod.snd a) + n_1))) (R (AV.tu [AV.i IntKind.i64 (0 : Int), AV.bo false]) [Blk.iter s (Prod.snd (Prod.snd a) + n_1)])) (R (AV.tu [AV.i IntKind.i64 (0 : Int), AV.bo false]) [Blk.iter s (Prod.snd (Prod.snd a) + n_1)])))) (br (decide (Prod.fst (Prod.snd a) > (0 : Int))) (R (AV.tu [AV.i IntKind.i64 (Prod.fst a), AV.bo (decide (Prod.fst a ≤ most))]) [Blk.iter s (Prod.snd (Prod.snd a))]) (R (AV.tu [AV.i IntKind.i64 (Prod.fst a), AV.bo false]) [Blk.iter s (Prod.snd (Prod.snd a))]))) := by kernel_rfl
/-- A sign below 128 is its byte; any other one is no sign below 128. -/
theorem decode_low {s : ByteArray} {i : Nat} (h : i < s.size) (hb : (s.data.toList.getD i 0).toNat < 128) : Utf8.decode s i = ((s.data.toList.getD i 0).toNat, 1) := by
  have e : s.get! (i + 0) = s.data.toList.getD i 0 := by
    rw [Nat.add_zero, List.getD_eq_getElem?_getD, Array.getElem?_toList]
    show s.data[i]! = _
    rw [getElem!_def]
    cases s.data[i]? <;> rfl
  unfold Utf8.decode
  simp only [e]
  rw [if_pos hb]
theorem decode_high {s : ByteArray} {i : Nat} (h : i < s.size) (hb : 128 ≤ (s.data.toList.getD i 0).toNat) : 128 ≤ (Utf8.decode s i).1 := by
  have e : s.get! (i + 0) = s.data.toList.getD i 0 := by
    rw [Nat.add_zero, List.getD_eq_getElem?_getD, Array.getElem?_toList]
    show s.data[i]! = _
    rw [getElem!_def]
    cases s.data[i]? <;> rfl
  unfold Utf8.decode
  simp only [e]
  rw [if_neg (by omega)]
  have r : 128 ≤ Utf8.runeError := by decide
  split
  · split
    · assumption
    · exact r
  · split
    · split
      · rename_i g; simp only [Bool.and_eq_true, decide_eq_true_eq] at g; show 128 ≤ _; omega
      · exact r
    · split
      · split
        · rename_i g; simp only [Bool.and_eq_true, decide_eq_true_eq] at g; show 128 ≤ _; omega
        · exact r
      · exact r
def dig10 (b : Nat) : Option Nat := if 48 ≤ b ∧ b ≤ 57 then some (b - 48) else none
def dig16 (b : Nat) : Option Nat := if 48 ≤ b ∧ b ≤ 57 then some (b - 48) else if 97 ≤ b ∧ b ≤ 102 then some (b - 87) else if 65 ≤ b ∧ b ≤ 70 then some (b - 55) else none
def foldD (dg : Nat → Option Nat) (base : Nat) : List UInt8 → Nat → Option Nat
  | [], n => some n
  | b :: l, n => match dg b.toNat with
    | some d => foldD dg base l (n * base + d)
    | none => none
theorem foldD_append {dg : Nat → Option Nat} {base : Nat} : ∀ (a b : List UInt8) (n : Nat), foldD dg base (a ++ b) n = (foldD dg base a n).bind (foldD dg base b)
  | [], b, n => rfl
  | x :: a, b, n => by
    simp only [List.cons_append, foldD]
    cases dg x.toNat with
    | none => rfl
    | some d => exact foldD_append a b _
/-- A number's word: its value, and whether it is one. -/
def digS (dg : Nat → Option Nat) (base many : Nat) (s : ByteArray) (most : Int) : Int × Bool := if s.size ≤ many then (match foldD dg base s.data.toList 0 with
    | some v => ((v : Int), decide (0 < s.size) && decide ((v : Int) ≤ most))
    | none => (0, false)) else (0, false)
theorem dig_bad {dg : Nat → Option Nat} {base many : Nat} {s : ByteArray} {most : Int} {k : Nat} (hk : k < s.size) (hd : dg (s.data.toList.getD k 0).toNat = none) : digS dg base many s most = (0, false) := by
  unfold digS
  split
  · have hk' : k < s.data.toList.length := by rw [size_list]; exact hk
    have e : s.data.toList = s.data.toList.take k ++ (s.data.toList[k] :: s.data.toList.drop (k + 1)) := by
      rw [← List.drop_eq_getElem_cons hk', List.take_append_drop]
    rw [List.getD_eq_getElem?_getD, List.getElem?_eq_getElem hk', Option.getD_some] at hd
    have : foldD dg base s.data.toList 0 = none := by
      rw [e, foldD_append]
      cases foldD dg base (s.data.toList.take k) 0 with
      | none => rfl
      | some v => simp only [Option.bind_some, foldD, hd]
    rw [this]
  · rfl
theorem dig_long {dg : Nat → Option Nat} {base many : Nat} {s : ByteArray} {most : Int} (h : many < s.size) : digS dg base many s most = (0, false) := by
  unfold digS
  rw [if_neg (by omega)]
theorem fold_step {dg : Nat → Option Nat} {base : Nat} {s : ByteArray} {k v d : Nat} (hk : k < s.size) (hv : foldD dg base (s.data.toList.take k) 0 = some v) (hd : dg (s.data.toList.getD k 0).toNat = some d) : foldD dg base (s.data.toList.take (k + 1)) 0 = some (v * base + d) := by
  have hk' : k < s.data.toList.length := by rw [size_list]; exact hk
  rw [List.getD_eq_getElem?_getD, List.getElem?_eq_getElem hk', Option.getD_some] at hd
  rw [List.take_add_one, List.getElem?_eq_getElem hk', Option.toList_some, foldD_append, hv]
  simp only [Option.bind_some, foldD, hd]
def digAns (q : Int × Bool) : AV := .tu [.i .i64 q.1, .bo q.2]
theorem run58d (s : ByteArray) (most : Int) : Holds (wpFn P tnil noW (head58 s 10 3 most) 0 Go.Proofs.Tryd.f58 [.s s, .i .i64 10, .i .i64 3, .i .i64 most] [] fun v _ => v = digAns (digS dig10 10 3 s most)) := by
  refine ⟨?_⟩
  rw [vc58d]
  refine ⟨Wk.refl _ _, fun m q => ∃ k v : Nat, q.1 = (v : Int) ∧ q.2.1 = (k : Int) ∧ q.2.2 = k ∧ k + m = s.size ∧ k ≤ 3 ∧ v + 1 ≤ 10 ^ k ∧ foldD dig10 10 (s.data.toList.take k) 0 = some v, s.size, ⟨0, 0, rfl, rfl, rfl, by omega, by omega, by decide, rfl⟩, ?_⟩
  rintro ⟨n, c, p⟩ m ⟨k, v, e1, e2, e3, hm, h3, hv, hf⟩
  simp only at e1 e2 e3
  subst e1 e2 e3
  have hp : 10 ^ p ≤ 10 ^ 3 := Nat.pow_le_pow_right (by decide) h3
  have hp' : (10 : Nat) ^ 3 = 1000 := rfl
  refine br_intro (fun hi => ?_) (fun hi => ?_)
  · simp only [decide_eq_true_eq] at hi
    rintro r n' ⟨hd⟩
    simp only at hd
    have low (hr : r < 128) : r = (s.data.toList.getD p 0).toNat ∧ n' = 1 := by
      rcases Nat.lt_or_ge (s.data.toList.getD p 0).toNat 128 with g | g
      · rw [decode_low hi g] at hd
        cases hd; exact ⟨rfl, rfl⟩
      · have := decode_high hi g
        rw [hd] at this
        simp only at this
        omega
    have high (hr : 128 ≤ r) : 128 ≤ (s.data.toList.getD p 0).toNat := by
      rcases Nat.lt_or_ge (s.data.toList.getD p 0).toNat 128 with g | g
      · rw [decode_low hi g] at hd
        cases hd; omega
      · exact g
    have bad (hr : ¬(48 ≤ r ∧ r ≤ 57)) : AV.tu [.i .i64 0, .bo false] = digAns (digS dig10 10 3 s most) := by
      rw [dig_bad (k := p) hi]; rfl
      unfold dig10
      rw [if_neg]
      rcases Nat.lt_or_ge r 128 with g | g
      · rw [← (low g).1]; exact hr
      · have := high g; omega
    refine br_intro (fun h48 => br_intro (fun h57 => ?_) (fun h57 => bad fun t => ?_)) (fun h48 => bad fun t => ?_)
    · simp only [decide_eq_true_eq] at h48 h57
      obtain ⟨er, rfl⟩ := low (by omega)
      have w1 : IntKind.wrap .i64 ((p : Int) + 1) = ((p + 1 : Nat) : Int) := by rw [i64w (by omega) (by omega)]; omega
      simp only [w1]
      refine br_intro (fun hc => ?_) (fun hc => ⟨Wk.refl _ _, m - 1, ⟨by omega⟩, p + 1, v * 10 + (r - 48), ?_, rfl, rfl, by omega, ?_, ?_, ?_⟩)
      · simp only [decide_eq_true_eq] at hc
        rw [dig_long (by omega)]; rfl
      · have w32 : IntKind.wrap .i32 ((r : Int) - 48) = (r : Int) - 48 := by simp [IntKind.wrap, IntKind.bits, IntKind.signed]; omega
        rw [w32, i64w (x := (v : Int) * 10) (by omega) (by omega), i64w (x := (r : Int) - 48) (by omega) (by omega), i64w (by omega) (by omega)]
        omega
      · simp only [decide_eq_false_iff_not] at hc
        omega
      · rw [Nat.pow_succ]; omega
      · refine fold_step hi hf ?_
        unfold dig10
        rw [← er, if_pos (by omega)]
    · simp only [decide_eq_false_iff_not] at h57; omega
    · simp only [decide_eq_false_iff_not] at h48; omega
  · simp only [decide_eq_false_iff_not] at hi
    have hz : p = s.size := by omega
    have hall : foldD dig10 10 s.data.toList 0 = some v := by
      rw [← hf, List.take_of_length_le (by rw [size_list]; omega)]
    unfold digS
    rw [if_pos (by omega), hall]
    refine br_intro (fun hc => ?_) (fun hc => ?_)
    · simp only [decide_eq_true_eq] at hc
      rw [decide_eq_true (show 0 < s.size by omega)]
      simp only [digAns, Bool.true_and]
    · simp only [decide_eq_false_iff_not] at hc
      rw [decide_eq_false (show ¬ 0 < s.size by omega)]
      simp only [digAns, Bool.false_and]
theorem run58h (s : ByteArray) (most : Int) : Holds (wpFn P tnil noW (head58 s 16 4 most) 0 Go.Proofs.Tryd.f58 [.s s, .i .i64 16, .i .i64 4, .i .i64 most] [] fun v _ => v = digAns (digS dig16 16 4 s most)) := by
  refine ⟨?_⟩
  rw [vc58h]
  refine ⟨Wk.refl _ _, fun m q => ∃ k v : Nat, q.1 = (v : Int) ∧ q.2.1 = (k : Int) ∧ q.2.2 = k ∧ k + m = s.size ∧ k ≤ 4 ∧ v + 1 ≤ 16 ^ k ∧ foldD dig16 16 (s.data.toList.take k) 0 = some v, s.size, ⟨0, 0, rfl, rfl, rfl, by omega, by omega, by decide, rfl⟩, ?_⟩
  rintro ⟨n, c, p⟩ m ⟨k, v, e1, e2, e3, hm, h3, hv, hf⟩
  simp only at e1 e2 e3
  subst e1 e2 e3
  have hp : 16 ^ p ≤ 16 ^ 4 := Nat.pow_le_pow_right (by decide) h3
  have hp' : (16 : Nat) ^ 4 = 65536 := rfl
  refine br_intro (fun hi => ?_) (fun hi => ?_)
  · simp only [decide_eq_true_eq] at hi
    rintro r n' ⟨hd⟩
    simp only at hd
    have low (hr : r < 128) : r = (s.data.toList.getD p 0).toNat ∧ n' = 1 := by
      rcases Nat.lt_or_ge (s.data.toList.getD p 0).toNat 128 with g | g
      · rw [decode_low hi g] at hd
        cases hd; exact ⟨rfl, rfl⟩
      · have := decode_high hi g
        rw [hd] at this
        simp only at this
        omega
    have high (hr : 128 ≤ r) : 128 ≤ (s.data.toList.getD p 0).toNat := by
      rcases Nat.lt_or_ge (s.data.toList.getD p 0).toNat 128 with g | g
      · rw [decode_low hi g] at hd
        cases hd; omega
      · exact g
    have bad (hr : ¬(48 ≤ r ∧ r ≤ 57) ∧ ¬(97 ≤ r ∧ r ≤ 102) ∧ ¬(65 ≤ r ∧ r ≤ 70)) : AV.tu [.i .i64 0, .bo false] = digAns (digS dig16 16 4 s most) := by
      rw [dig_bad (k := p) hi]; rfl
      unfold dig16
      rcases Nat.lt_or_ge r 128 with g | g
      · rw [← (low g).1, if_neg hr.1, if_neg hr.2.1, if_neg hr.2.2]
      · have := high g
        rw [if_neg (by omega), if_neg (by omega), if_neg (by omega)]
    refine br_intro (fun h48 => br_intro (fun h57 => ?_) (fun h57 => br_intro (fun h97 => br_intro (fun h102 => ?_) (fun h102 => br_intro (fun h65 => br_intro (fun h70 => ?_) (fun h70 => ?_)) (fun h65 => ?_))) (fun h97 => br_intro (fun h65 => br_intro (fun h70 => ?_) (fun h70 => ?_)) (fun h65 => ?_)))) (fun h48 => br_intro (fun h97 => br_intro (fun h102 => ?_) (fun h102 => br_intro (fun h65 => br_intro (fun h70 => ?_) (fun h70 => ?_)) (fun h65 => ?_))) (fun h97 => br_intro (fun h65 => br_intro (fun h70 => ?_) (fun h70 => ?_)) (fun h65 => ?_)))
    · rcases Nat.lt_or_ge r 128 with g128 | g128
      · obtain ⟨er, rfl⟩ := low g128
        by_cases hr : 48 ≤ r ∧ r ≤ 57
        · have w1 : IntKind.wrap .i64 ((p : Int) + 1) = ((p + 1 : Nat) : Int) := by rw [i64w (by omega) (by omega)]; omega
          simp only [w1]
          refine br_intro (fun hc => ?_) (fun hc => ⟨Wk.refl _ _, m - 1, ⟨by omega⟩, p + 1, v * 16 + (r - 48), ?_, rfl, rfl, by omega, ?_, ?_, ?_⟩)
          · simp only [decide_eq_true_eq] at hc
            rw [dig_long (by omega)]; rfl
          · have hr' := hr
            have w32 : IntKind.wrap .i32 ((r : Int) - 48) = (r : Int) - 48 := by simp [IntKind.wrap, IntKind.bits, IntKind.signed]; omega
            rw [w32, i64w (x := (v : Int) * 16) (by omega) (by omega), i64w (x := (r : Int) - 48) (by omega) (by omega), i64w (by omega) (by omega)]
            omega
          · simp only [decide_eq_false_iff_not] at hc
            omega
          · rw [Nat.pow_succ]; omega
          · refine fold_step hi hf ?_
            unfold dig16
            rw [← er]
            rw [if_pos (by omega)]
        · exfalso
          simp only [decide_eq_true_eq, decide_eq_false_iff_not] at *
          omega
      · exfalso
        simp only [decide_eq_true_eq, decide_eq_false_iff_not] at *
        omega
    · rcases Nat.lt_or_ge r 128 with g128 | g128
      · obtain ⟨er, rfl⟩ := low g128
        by_cases hr : 97 ≤ r ∧ r ≤ 102
        · have w1 : IntKind.wrap .i64 ((p : Int) + 1) = ((p + 1 : Nat) : Int) := by rw [i64w (by omega) (by omega)]; omega
          simp only [w1]
          refine br_intro (fun hc => ?_) (fun hc => ⟨Wk.refl _ _, m - 1, ⟨by omega⟩, p + 1, v * 16 + (r - 87), ?_, rfl, rfl, by omega, ?_, ?_, ?_⟩)
          · simp only [decide_eq_true_eq] at hc
            rw [dig_long (by omega)]; rfl
          · have hr' := hr
            have w32 : IntKind.wrap .i32 ((r : Int) - 97) = (r : Int) - 97 := by simp [IntKind.wrap, IntKind.bits, IntKind.signed]; omega
            rw [w32, i64w (x := (v : Int) * 16) (by omega) (by omega), i64w (x := (r : Int) - 97) (by omega) (by omega), i64w (x := (r : Int) - 97 + 10) (by omega) (by omega), i64w (by omega) (by omega)]
            omega
          · simp only [decide_eq_false_iff_not] at hc
            omega
          · rw [Nat.pow_succ]; omega
          · refine fold_step hi hf ?_
            unfold dig16
            rw [← er]
            rw [if_neg (by omega), if_pos (by omega)]
        · exfalso
          simp only [decide_eq_true_eq, decide_eq_false_iff_not] at *
          omega
      · exfalso
        simp only [decide_eq_true_eq, decide_eq_false_iff_not] at *
        omega
    · rcases Nat.lt_or_ge r 128 with g128 | g128
      · obtain ⟨er, rfl⟩ := low g128
        by_cases hr : 65 ≤ r ∧ r ≤ 70
        · have w1 : IntKind.wrap .i64 ((p : Int) + 1) = ((p + 1 : Nat) : Int) := by rw [i64w (by omega) (by omega)]; omega
          simp only [w1]
          refine br_intro (fun hc => ?_) (fun hc => ⟨Wk.refl _ _, m - 1, ⟨by omega⟩, p + 1, v * 16 + (r - 55), ?_, rfl, rfl, by omega, ?_, ?_, ?_⟩)
          · simp only [decide_eq_true_eq] at hc
            rw [dig_long (by omega)]; rfl
          · have hr' := hr
            have w32 : IntKind.wrap .i32 ((r : Int) - 65) = (r : Int) - 65 := by simp [IntKind.wrap, IntKind.bits, IntKind.signed]; omega
            rw [w32, i64w (x := (v : Int) * 16) (by omega) (by omega), i64w (x := (r : Int) - 65) (by omega) (by omega), i64w (x := (r : Int) - 65 + 10) (by omega) (by omega), i64w (by omega) (by omega)]
            omega
          · simp only [decide_eq_false_iff_not] at hc
            omega
          · rw [Nat.pow_succ]; omega
          · refine fold_step hi hf ?_
            unfold dig16
            rw [← er]
            rw [if_neg (by omega), if_neg (by omega), if_pos (by omega)]
        · exfalso
          simp only [decide_eq_true_eq, decide_eq_false_iff_not] at *
          omega
      · exfalso
        simp only [decide_eq_true_eq, decide_eq_false_iff_not] at *
        omega
    · refine bad ?_
      simp only [decide_eq_true_eq, decide_eq_false_iff_not] at *
      omega
    · refine bad ?_
      simp only [decide_eq_true_eq, decide_eq_false_iff_not] at *
      omega
    · rcases Nat.lt_or_ge r 128 with g128 | g128
      · obtain ⟨er, rfl⟩ := low g128
        by_cases hr : 65 ≤ r ∧ r ≤ 70
        · have w1 : IntKind.wrap .i64 ((p : Int) + 1) = ((p + 1 : Nat) : Int) := by rw [i64w (by omega) (by omega)]; omega
          simp only [w1]
          refine br_intro (fun hc => ?_) (fun hc => ⟨Wk.refl _ _, m - 1, ⟨by omega⟩, p + 1, v * 16 + (r - 55), ?_, rfl, rfl, by omega, ?_, ?_, ?_⟩)
          · simp only [decide_eq_true_eq] at hc
            rw [dig_long (by omega)]; rfl
          · have hr' := hr
            have w32 : IntKind.wrap .i32 ((r : Int) - 65) = (r : Int) - 65 := by simp [IntKind.wrap, IntKind.bits, IntKind.signed]; omega
            rw [w32, i64w (x := (v : Int) * 16) (by omega) (by omega), i64w (x := (r : Int) - 65) (by omega) (by omega), i64w (x := (r : Int) - 65 + 10) (by omega) (by omega), i64w (by omega) (by omega)]
            omega
          · simp only [decide_eq_false_iff_not] at hc
            omega
          · rw [Nat.pow_succ]; omega
          · refine fold_step hi hf ?_
            unfold dig16
            rw [← er]
            rw [if_neg (by omega), if_neg (by omega), if_pos (by omega)]
        · exfalso
          simp only [decide_eq_true_eq, decide_eq_false_iff_not] at *
          omega
      · exfalso
        simp only [decide_eq_true_eq, decide_eq_false_iff_not] at *
        omega
    · refine bad ?_
      simp only [decide_eq_true_eq, decide_eq_false_iff_not] at *
      omega
    · refine bad ?_
      simp only [decide_eq_true_eq, decide_eq_false_iff_not] at *
      omega
    · rcases Nat.lt_or_ge r 128 with g128 | g128
      · obtain ⟨er, rfl⟩ := low g128
        by_cases hr : 97 ≤ r ∧ r ≤ 102
        · have w1 : IntKind.wrap .i64 ((p : Int) + 1) = ((p + 1 : Nat) : Int) := by rw [i64w (by omega) (by omega)]; omega
          simp only [w1]
          refine br_intro (fun hc => ?_) (fun hc => ⟨Wk.refl _ _, m - 1, ⟨by omega⟩, p + 1, v * 16 + (r - 87), ?_, rfl, rfl, by omega, ?_, ?_, ?_⟩)
          · simp only [decide_eq_true_eq] at hc
            rw [dig_long (by omega)]; rfl
          · have hr' := hr
            have w32 : IntKind.wrap .i32 ((r : Int) - 97) = (r : Int) - 97 := by simp [IntKind.wrap, IntKind.bits, IntKind.signed]; omega
            rw [w32, i64w (x := (v : Int) * 16) (by omega) (by omega), i64w (x := (r : Int) - 97) (by omega) (by omega), i64w (x := (r : Int) - 97 + 10) (by omega) (by omega), i64w (by omega) (by omega)]
            omega
          · simp only [decide_eq_false_iff_not] at hc
            omega
          · rw [Nat.pow_succ]; omega
          · refine fold_step hi hf ?_
            unfold dig16
            rw [← er]
            rw [if_neg (by omega), if_pos (by omega)]
        · exfalso
          simp only [decide_eq_true_eq, decide_eq_false_iff_not] at *
          omega
      · exfalso
        simp only [decide_eq_true_eq, decide_eq_false_iff_not] at *
        omega
    · rcases Nat.lt_or_ge r 128 with g128 | g128
      · obtain ⟨er, rfl⟩ := low g128
        by_cases hr : 65 ≤ r ∧ r ≤ 70
        · have w1 : IntKind.wrap .i64 ((p : Int) + 1) = ((p + 1 : Nat) : Int) := by rw [i64w (by omega) (by omega)]; omega
          simp only [w1]
          refine br_intro (fun hc => ?_) (fun hc => ⟨Wk.refl _ _, m - 1, ⟨by omega⟩, p + 1, v * 16 + (r - 55), ?_, rfl, rfl, by omega, ?_, ?_, ?_⟩)
          · simp only [decide_eq_true_eq] at hc
            rw [dig_long (by omega)]; rfl
          · have hr' := hr
            have w32 : IntKind.wrap .i32 ((r : Int) - 65) = (r : Int) - 65 := by simp [IntKind.wrap, IntKind.bits, IntKind.signed]; omega
            rw [w32, i64w (x := (v : Int) * 16) (by omega) (by omega), i64w (x := (r : Int) - 65) (by omega) (by omega), i64w (x := (r : Int) - 65 + 10) (by omega) (by omega), i64w (by omega) (by omega)]
            omega
          · simp only [decide_eq_false_iff_not] at hc
            omega
          · rw [Nat.pow_succ]; omega
          · refine fold_step hi hf ?_
            unfold dig16
            rw [← er]
            rw [if_neg (by omega), if_neg (by omega), if_pos (by omega)]
        · exfalso
          simp only [decide_eq_true_eq, decide_eq_false_iff_not] at *
          omega
      · exfalso
        simp only [decide_eq_true_eq, decide_eq_false_iff_not] at *
        omega
    · refine bad ?_
      simp only [decide_eq_true_eq, decide_eq_false_iff_not] at *
      omega
    · refine bad ?_
      simp only [decide_eq_true_eq, decide_eq_false_iff_not] at *
      omega
    · rcases Nat.lt_or_ge r 128 with g128 | g128
      · obtain ⟨er, rfl⟩ := low g128
        by_cases hr : 65 ≤ r ∧ r ≤ 70
        · have w1 : IntKind.wrap .i64 ((p : Int) + 1) = ((p + 1 : Nat) : Int) := by rw [i64w (by omega) (by omega)]; omega
          simp only [w1]
          refine br_intro (fun hc => ?_) (fun hc => ⟨Wk.refl _ _, m - 1, ⟨by omega⟩, p + 1, v * 16 + (r - 55), ?_, rfl, rfl, by omega, ?_, ?_, ?_⟩)
          · simp only [decide_eq_true_eq] at hc
            rw [dig_long (by omega)]; rfl
          · have hr' := hr
            have w32 : IntKind.wrap .i32 ((r : Int) - 65) = (r : Int) - 65 := by simp [IntKind.wrap, IntKind.bits, IntKind.signed]; omega
            rw [w32, i64w (x := (v : Int) * 16) (by omega) (by omega), i64w (x := (r : Int) - 65) (by omega) (by omega), i64w (x := (r : Int) - 65 + 10) (by omega) (by omega), i64w (by omega) (by omega)]
            omega
          · simp only [decide_eq_false_iff_not] at hc
            omega
          · rw [Nat.pow_succ]; omega
          · refine fold_step hi hf ?_
            unfold dig16
            rw [← er]
            rw [if_neg (by omega), if_neg (by omega), if_pos (by omega)]
        · exfalso
          simp only [decide_eq_true_eq, decide_eq_false_iff_not] at *
          omega
      · exfalso
        simp only [decide_eq_true_eq, decide_eq_false_iff_not] at *
        omega
    · refine bad ?_
      simp only [decide_eq_true_eq, decide_eq_false_iff_not] at *
      omega
    · refine bad ?_
      simp only [decide_eq_true_eq, decide_eq_false_iff_not] at *
      omega
  · simp only [decide_eq_false_iff_not] at hi
    have hz : p = s.size := by omega
    have hall : foldD dig16 16 s.data.toList 0 = some v := by
      rw [← hf, List.take_of_length_le (by rw [size_list]; omega)]
    unfold digS
    rw [if_pos (by omega), hall]
    refine br_intro (fun hc => ?_) (fun hc => ?_)
    · simp only [decide_eq_true_eq] at hc
      rw [decide_eq_true (show 0 < s.size by omega)]
      simp only [digAns, Bool.true_and]
    · simp only [decide_eq_false_iff_not] at hc
      rw [decide_eq_false (show ¬ 0 < s.size by omega)]
      simp only [digAns, Bool.false_and]
end Go.Proofs.YtohaalilplngnaaDoor.ClassRun
/- Decimal words. -/
set_option linter.unusedVariables false
set_option linter.unusedSimpArgs false
open Go Go.Proofs.YtohaalilplngnaaDoor.Eng Go.RowKit
namespace Go.Proofs.YtohaalilplngnaaDoor.ClassRun
/-- A number's word read; a number written. -/
def tdig (D : Int → Int → ByteArray → Int → Int × Bool) (args : List AV) (h : Hp) (K : AV → Hp → Prop) : Prop := match args with
  | [.s s, .i .i64 b, .i .i64 m, .i .i64 most] => Holds ((b = 10 ∧ m = 3) ∨ (b = 16 ∧ m = 4)) ∧ ∀ (v : Int) (ok : Bool), Holds (D b m s most = (v, ok)) → K (.tu [.i .i64 v, .bo ok]) h
  | _ => False
def titoa (I : Int → ByteArray) (args : List AV) (h : Hp) (K : AV → Hp → Prop) : Prop := match args with
  | [.i .i64 n] => Holds (-9223372036854775808 ≤ n ∧ n ≤ 9223372036854775807) ∧ ∀ t : ByteArray, Holds (I n = t) → K (.s t) h
  | _ => False
def head52 (s : ByteArray) (most : Int) : Nat → Option Head := fun r => match r with
  | 1003 => some (Head.one (Get.int 1) fun _ => ⟨[.s s, .i .i64 most] ++ bads 51, []⟩)
  | 5 => some (Head.one (Get.and (Get.int 5) (Get.int 6)) fun q => ⟨[.s s, .i .i64 most, .bad, .bad, .bad, .i .i64 q.1, .i .i64 q.2] ++ bads 46, []⟩)
  | _ => none
def head53 (s : ByteArray) : Nat → Option Head := fun r => match r with
  | 5 => some (Head.one (Get.and (Get.int 3) (Get.int 4)) fun q => ⟨[.s s, .bad, .bad, .i .i64 q.1, .i .i64 q.2] ++ bads 55, []⟩)
  | 1011 => some (Head.one (Get.and (Get.int 3) (Get.and (Get.int 4) (Get.and (Get.int 5) (Get.int 6)))) fun q => ⟨[.s s, .bad, .bad, .i .i64 q.1, .i .i64 q.2.1, .i .u8 q.2.2.1, .i .i64 q.2.2.2] ++ bads 53, []⟩)
  | 1013 => some (Head.one (Get.and (Get.int 3) (Get.and (Get.int 4) (Get.and (Get.int 5) (Get.int 6)))) fun q => ⟨[.s s, .bad, .bad, .i .i64 q.1, .i .i64 q.2.1, .i .u8 q.2.2.1, .i .i64 q.2.2.2] ++ bads 53, []⟩)
  | 1015 => some (Head.one (Get.and (Get.int 3) (Get.and (Get.int 4) (Get.int 6))) fun q => ⟨[.s s, .bad, .bad, .i .i64 q.1, .i .i64 q.2.1, .bad, .i .i64 q.2.2] ++ bads 53, []⟩)
  | _ => none
theorem vc40 (D : Int → Int → ByteArray → Int → Int × Bool) (I : Int → ByteArray) (s : ByteArray) (most : Int) (R : AV → Hp → Prop) : (wpFn P (tcons 58 (tdig D) (tcons 32 (titoa I) tnil)) noW noL 0 Go.Proofs.Tryd.f40 [.s s, .i .i64 most] [] R) = (Holds ((10 : Int) = (10 : Int) ∧ (3 : Int) = (3 : Int) ∨ (10 : Int) = (16 : Int) ∧ (3 : Int) = (4 : Int)) ∧ ∀ (v : Int) (ok : Bool), Holds (D (10 : Int) (3 : Int) s most = (v, ok)) → br ok (Holds ((-9223372036854775808 : Int) ≤ v ∧ v ≤ (9223372036854775807 : Int)) ∧ ∀ (t : ByteArray), Holds (I v = t) → R (AV.tu [AV.i IntKind.i64 v, AV.bo (ByteArray.toList t == ByteArray.toList s)]) []) (R (AV.tu [AV.i IntKind.i64 v, AV.bo false]) [])) := by kernel_rfl
theorem vc52 (s : ByteArray) (most : Int) (R : AV → Hp → Prop) : (wpFn P tnil noW (head52 s most) 0 Go.Proofs.Tryd.f52 [.s s, .i .i64 most] [] R) = (∃ (J : Int → Prop), br ((↑(ByteArray.size s) : Int) == (0 : Int)) (R (AV.i IntKind.i64 (-1 : Int)) []) (br (decide ((↑(ByteArray.size s) : Int) > (3 : Int))) (R (AV.i IntKind.i64 (-1 : Int)) []) (br (decide ((↑(ByteArray.size s) : Int) > (1 : Int))) (Holds ((0 : Int) ≤ (0 : Int)) ∧ ∃ (b : UInt8), Holds (s[(0 : Nat)]? = some b) ∧ br ((↑(UInt8.toNat b) : Int) == (48 : Int)) (R (AV.i IntKind.i64 (-1 : Int)) []) (Wk (0 : Nat) { t := [AV.s s, AV.i IntKind.i64 most, .bad, .bad, .bad, .bad, .bad, .bad, .bad, .bad, .bad, .bad, .bad, .bad, .bad, .bad, .bad, .bad, .bad, .bad, .bad, .bad, .bad, .bad, .bad, .bad, .bad, .bad, .bad, .bad, .bad, .bad, .bad, .bad, .bad, .bad, .bad, .bad, .bad, .bad, .bad, .bad, .bad, .bad, .bad, .bad, .bad, .bad, .bad, .bad, .bad, .bad, .bad], h := [] } { t := [AV.s s, AV.i IntKind.i64 most, .bad, .bad, .bad, .bad, .bad, .bad, .bad, .bad, .bad, .bad, .bad, .bad, .bad, .bad, .bad, .bad, .bad, .bad, .bad, .bad, .bad, .bad, .bad, .bad, .bad, .bad, .bad, .bad, .bad, .bad, .bad, .bad, .bad, .bad, .bad, .bad, .bad, .bad, .bad, .bad, .bad, .bad, .bad, .bad, .bad, .bad, .bad, .bad, .bad, .bad, .bad], h := [] } ∧ J most)) (Wk (0 : Nat) { t := [AV.s s, AV.i IntKind.i64 most, .bad, .bad, .bad, .bad, .bad, .bad, .bad, .bad, .bad, .bad, .bad, .bad, .bad, .bad, .bad, .bad, .bad, .bad, .bad, .bad, .bad, .bad, .bad, .bad, .bad, .bad, .bad, .bad, .bad, .bad, .bad, .bad, .bad, .bad, .bad, .bad, .bad, .bad, .bad, .bad, .bad, .bad, .bad, .bad, .bad, .bad, .bad, .bad, .bad, .bad, .bad], h := [] } { t := [AV.s s, AV.i IntKind.i64 most, .bad, .bad, .bad, .bad, .bad, .bad, .bad, .bad, .bad, .bad, .bad, .bad, .bad, .bad, .bad, .bad, .bad, .bad, .bad, .bad, .bad, .bad, .bad, .bad, .bad, .bad, .bad, .bad, .bad, .bad, .bad, .bad, .bad, .bad, .bad, .bad, .bad, .bad, .bad, .bad, .bad, .bad, .bad, .bad, .bad, .bad, .bad, .bad, .bad, .bad, .bad], h := [] } ∧ J most))) ∧ ∀ (a : Int), J a → Wk (0 : Nat) { t := [AV.s s, AV.i IntKind.i64 most, .bad, .bad, .bad, AV.i IntKind.i64 (0 : Int), AV.i IntKind.i64 (0 : Int), .bad, .bad, .bad, .bad, .bad, .bad, .bad, .bad, .bad, .bad, .bad, .bad, .bad, .bad, .bad, .bad, .bad, .bad, .bad, .bad, .bad, .bad, .bad, .bad, .bad, .bad, .bad, .bad, .bad, .bad, .bad, .bad, .bad, .bad, .bad, .bad, .bad, .bad, .bad, .bad, .bad, .bad, .bad, .bad, .bad, .bad], h := [] } { t := [AV.s s, AV.i IntKind.i64 most, .bad, .bad, .bad, AV.i IntKind.i64 (0 : Int), AV.i IntKind.i64 (0 : Int), .bad, .bad, .bad, .bad, .bad, .bad, .bad, .bad, .bad, .bad, .bad, .bad, .bad, .bad, .bad, .bad, .bad, .bad, .bad, .bad, .bad, .bad, .bad, .bad, .bad, .bad, .bad, .bad, .bad, .bad, .bad, .bad, .bad, .bad, .bad, .bad, .bad, .bad, .bad, .bad, .bad, .bad, .bad, .bad, .bad, .bad], h := [] } ∧ ∃ (I : Nat → Int × Int → Prop), ∃ (n : Nat), I n ((0 : Int), (0 : Int)) ∧ ∀ (a : Int × Int) (n : Nat), I n a → br (decide (Prod.snd a < (↑(ByteArray.size s) : Int))) (Holds ((0 : Int) ≤ Prod.snd a) ∧ ∃ (b : UInt8), Holds (s[Int.toNat (Prod.snd a)]? = some b) ∧ br (decide ((↑(UInt8.toNat b) : Int) < (48 : Int))) (R (AV.i IntKind.i64 (-1 : Int)) []) (Holds ((0 : Int) ≤ Prod.snd a) ∧ ∃ (b : UInt8), Holds (s[Int.toNat (Prod.snd a)]? = some b) ∧ br (decide ((↑(UInt8.toNat b) : Int) > (57 : Int))) (R (AV.i IntKind.i64 (-1 : Int)) []) (Holds ((0 : Int) ≤ Prod.snd a) ∧ ∃ (b : UInt8), Holds (s[Int.toNat (Prod.snd a)]? = some b) ∧ Wk (0 : Nat) { t := [AV.s s, AV.i IntKind.i64 most, .bad, .bad, .bad, AV.i IntKind.i64 (IntKind.wrap IntKind.i64 (IntKind.wrap IntKind.i64 (IntKind.wrap IntKind.i64 ((10 : Int) * Prod.fst a) + IntKind.wrap IntKind.i64 (↑(UInt8.toNat b) : Int)) - (48 : Int))), AV.i IntKind.i64 (IntKind.wrap IntKind.i64 (Prod.snd a + (1 : Int))), .bad, .bad, .bad, .bad, .bad, .bad, .bad, .bad, .bad, .bad, .bad, .bad, .bad, .bad, .bad, .bad, .bad, .bad, .bad, .bad, .bad, .bad, .bad, .bad, .bad, .bad, .bad, .bad, .bad, .bad, .bad, .bad, .bad, .bad, .bad, .bad, .bad, .bad, .bad, .bad, .bad, .bad, .bad, .bad, .bad, .bad], h := [] } { t := [AV.s s, AV.i IntKind.i64 most, .bad, .bad, .bad, AV.i IntKind.i64 (IntKind.wrap IntKind.i64 (IntKind.wrap IntKind.i64 (IntKind.wrap IntKind.i64 ((10 : Int) * Prod.fst a) + IntKind.wrap IntKind.i64 (↑(UInt8.toNat b) : Int)) - (48 : Int))), AV.i IntKind.i64 (IntKind.wrap IntKind.i64 (Prod.snd a + (1 : Int))), .bad, .bad, .bad, .bad, .bad, .bad, .bad, .bad, .bad, .bad, .bad, .bad, .bad, .bad, .bad, .bad, .bad, .bad, .bad, .bad, .bad, .bad, .bad, .bad, .bad, .bad, .bad, .bad, .bad, .bad, .bad, .bad, .bad, .bad, .bad, .bad, .bad, .bad, .bad, .bad, .bad, .bad, .bad, .bad, .bad, .bad], h := [] } ∧ ∃ (m : Nat), Holds (m < n) ∧ I m (IntKind.wrap IntKind.i64 (IntKind.wrap IntKind.i64 (IntKind.wrap IntKind.i64 ((10 : Int) * Prod.fst a) + IntKind.wrap IntKind.i64 (↑(UInt8.toNat b) : Int)) - (48 : Int)), IntKind.wrap IntKind.i64 (Prod.snd a + (1 : Int)))))) (br (decide (Prod.fst a > most)) (R (AV.i IntKind.i64 (-1 : Int)) []) (R (AV.i IntKind.i64 (Prod.fst a)) []))) := by kernel_rfl
theorem vc53 (s : ByteArray) (R : AV → Hp → Prop) : (wpFn P tnil noW (head53 s) 0 Go.Proofs.Tryd.f53 [.s s] [] R) = (br ((↑(ByteArray.size s) : Int) == (0 : Int)) (R (AV.i IntKind.i64 (-1 : Int)) []) (br (decide ((↑(ByteArray.size s) : Int) > (4 : Int))) (R (AV.i IntKind.i64 (-1 : Int)) []) (Wk (0 : Nat) { t := [AV.s s, .bad, .bad, AV.i IntKind.i64 (0 : Int), AV.i IntKind.i64 (0 : Int), .bad, .bad, .bad, .bad, .bad, .bad, .bad, .bad, .bad, .bad, .bad, .bad, .bad, .bad, .bad, .bad, .bad, .bad, .bad, .bad, .bad, .bad, .bad, .bad, .bad, .bad, .bad, .bad, .bad, .bad, .bad, .bad, .bad, .bad, .bad, .bad, .bad, .bad, .bad, .bad, .bad, .bad, .bad, .bad, .bad, .bad, .bad, .bad, .bad, .bad, .bad, .bad, .bad, .bad, .bad], h := [] } { t := [AV.s s, .bad, .bad, AV.i IntKind.i64 (0 : Int), AV.i IntKind.i64 (0 : Int), .bad, .bad, .bad, .bad, .bad, .bad, .bad, .bad, .bad, .bad, .bad, .bad, .bad, .bad, .bad, .bad, .bad, .bad, .bad, .bad, .bad, .bad, .bad, .bad, .bad, .bad, .bad, .bad, .bad, .bad, .bad, .bad, .bad, .bad, .bad, .bad, .bad, .bad, .bad, .bad, .bad, .bad, .bad, .bad, .bad, .bad, .bad, .bad, .bad, .bad, .bad, .bad, .bad, .bad, .bad], h := [] } ∧ ∃ (I : Nat → Int × Int → Prop), ∃ (n : Nat), I n ((0 : Int), (0 : Int)) ∧ ∀ (a : Int × Int) (n : Nat), I n a → br (decide (Prod.snd a < (↑(ByteArray.size s) : Int))) (Holds ((0 : Int) ≤ Prod.snd a) ∧ ∃ (b : UInt8), Holds (s[Int.toNat (Prod.snd a)]? = some b) ∧ ∃ (J : Int × Int × Int × Int → Prop), br (decide ((↑(UInt8.toNat b) : Int) ≥ (48 : Int))) (br (decide ((↑(UInt8.toNat b) : Int) ≤ (57 : Int))) (Wk (0 : Nat) { t := [AV.s s, .bad, .bad, AV.i IntKind.i64 (Prod.fst a), AV.i IntKind.i64 (Prod.snd a), AV.i IntKind.u8 (↑(UInt8.toNat b) : Int), AV.i IntKind.i64 (IntKind.wrap IntKind.i64 (IntKind.wrap IntKind.i64 (↑(UInt8.toNat b) : Int) - (48 : Int))), .bad, .bad, .bad, .bad, .bad, .bad, .bad, .bad, .bad, .bad, .bad, .bad, .bad, .bad, .bad, .bad, .bad, .bad, .bad, .bad, .bad, .bad, .bad, .bad, .bad, .bad, .bad, .bad, .bad, .bad, .bad, .bad, .bad, .bad, .bad, .bad, .bad, .bad, .bad, .bad, .bad, .bad, .bad, .bad, .bad, .bad, .bad, .bad, .bad, .bad, .bad, .bad, .bad], h := [] } { t := [AV.s s, .bad, .bad, AV.i IntKind.i64 a.1, AV.i IntKind.i64 a.2, AV.i IntKind.u8 (↑(UInt8.toNat b) : Int), AV.i IntKind.i64 (IntKind.wrap IntKind.i64 (IntKind.wrap IntKind.i64 (↑(UInt8.toNat b) : Int) - (48 : Int))), .bad, .bad, .bad, .bad, .bad, .bad, .bad, .bad, .bad, .bad, .bad, .bad, .bad, .bad, .bad, .bad, .bad, .bad, .bad, .bad, .bad, .bad, .bad, .bad, .bad, .bad, .bad, .bad, .bad, .bad, .bad, .bad, .bad, .bad, .bad, .bad, .bad, .bad, .bad, .bad, .bad, .bad, .bad, .bad, .bad, .bad, .bad, .bad, .bad, .bad, .bad, .bad, .bad], h := [] } ∧ J (Prod.fst a, Prod.snd a, (↑(UInt8.toNat b) : Int), IntKind.wrap IntKind.i64 (IntKind.wrap IntKind.i64 (↑(UInt8.toNat b) : Int) - (48 : Int)))) (Wk (0 : Nat) { t := [AV.s s, .bad, .bad, AV.i IntKind.i64 (Prod.fst a), AV.i IntKind.i64 (Prod.snd a), AV.i IntKind.u8 (↑(UInt8.toNat b) : Int), AV.i IntKind.i64 (-1 : Int), .bad, .bad, .bad, .bad, .bad, .bad, .bad, .bad, .bad, .bad, .bad, .bad, .bad, .bad, .bad, .bad, .bad, .bad, .bad, .bad, .bad, .bad, .bad, .bad, .bad, .bad, .bad, .bad, .bad, .bad, .bad, .bad, .bad, .bad, .bad, .bad, .bad, .bad, .bad, .bad, .bad, .bad, .bad, .bad, .bad, .bad, .bad, .bad, .bad, .bad, .bad, .bad, .bad], h := [] } { t := [AV.s s, .bad, .bad, AV.i IntKind.i64 a.1, AV.i IntKind.i64 a.2, AV.i IntKind.u8 (↑(UInt8.toNat b) : Int), AV.i IntKind.i64 (-1 : Int), .bad, .bad, .bad, .bad, .bad, .bad, .bad, .bad, .bad, .bad, .bad, .bad, .bad, .bad, .bad, .bad, .bad, .bad, .bad, .bad, .bad, .bad, .bad, .bad, .bad, .bad, .bad, .bad, .bad, .bad, .bad, .bad, .bad, .bad, .bad, .bad, .bad, .bad, .bad, .bad, .bad, .bad, .bad, .bad, .bad, .bad, .bad, .bad, .bad, .bad, .bad, .bad, .bad], h := [] } ∧ J (Prod.fst a, Prod.snd a, (↑(UInt8.toNat b) : Int), (-1 : Int)))) (Wk (0 : Nat) { t := [AV.s s, .bad, .bad, AV.i IntKind.i64 (Prod.fst a), AV.i IntKind.i64 (Prod.snd a), AV.i IntKind.u8 (↑(UInt8.toNat b) : Int), AV.i IntKind.i64 (-1 : Int), .bad, .bad, .bad, .bad, .bad, .bad, .bad, .bad, .bad, .bad, .bad, .bad, .bad, .bad, .bad, .bad, .bad, .bad, .bad, .bad, .bad, .bad, .bad, .bad, .bad, .bad, .bad, .bad, .bad, .bad, .bad, .bad, .bad, .bad, .bad, .bad, .bad, .bad, .bad, .bad, .bad, .bad, .bad, .bad, .bad, .bad, .bad, .bad, .bad, .bad, .bad, .bad, .bad], h := [] } { t := [AV.s s, .bad, .bad, AV.i IntKind.i64 a.1, AV.i IntKind.i64 a.2, AV.i IntKind.u8 (↑(UInt8.toNat b) : Int), AV.i IntKind.i64 (-1 : Int), .bad, .bad, .bad, .bad, .bad, .bad, .bad, .bad, .bad, .bad, .bad, .bad, .bad, .bad, .bad, .bad, .bad, .bad, .bad, .bad, .bad, .bad, .bad, .bad, .bad, .bad, .bad, .bad, .bad, .bad, .bad, .bad, .bad, .bad, .bad, .bad, .bad, .bad, .bad, .bad, .bad, .bad, .bad, .bad, .bad, .bad, .bad, .bad, .bad, .bad, .bad, .bad, .bad], h := [] } ∧ J (Prod.fst a, Prod.snd a, (↑(UInt8.toNat b) : Int), (-1 : Int))) ∧ ∀ (a : Int × Int × Int × Int), J a → ∃ (J : Int × Int × Int × Int → Prop), br (decide (Prod.fst (Prod.snd (Prod.snd a)) ≥ (97 : Int))) (br (decide (Prod.fst (Prod.snd (Prod.snd a)) ≤ (102 : Int))) (Wk (0 : Nat) { t := [AV.s s, .bad, .bad, AV.i IntKind.i64 (Prod.fst a), AV.i IntKind.i64 (Prod.fst (Prod.snd a)), AV.i IntKind.u8 (Prod.fst (Prod.snd (Prod.snd a))), AV.i IntKind.i64 (IntKind.wrap IntKind.i64 (IntKind.wrap IntKind.i64 (IntKind.wrap IntKind.i64 (Prod.fst (Prod.snd (Prod.snd a))) - (97 : Int)) + (10 : Int))), .bad, .bad, .bad, .bad, .bad, .bad, .bad, .bad, .bad, .bad, .bad, .bad, .bad, .bad, .bad, .bad, .bad, .bad, .bad, .bad, .bad, .bad, .bad, .bad, .bad, .bad, .bad, .bad, .bad, .bad, .bad, .bad, .bad, .bad, .bad, .bad, .bad, .bad, .bad, .bad, .bad, .bad, .bad, .bad, .bad, .bad, .bad, .bad, .bad, .bad, .bad, .bad, .bad], h := [] } { t := [AV.s s, .bad, .bad, AV.i IntKind.i64 a.1, AV.i IntKind.i64 (Prod.snd a).1, AV.i IntKind.u8 (Prod.snd (Prod.snd a)).1, AV.i IntKind.i64 (IntKind.wrap IntKind.i64 (IntKind.wrap IntKind.i64 (IntKind.wrap IntKind.i64 (Prod.fst (Prod.snd (Prod.snd a))) - (97 : Int)) + (10 : Int))), .bad, .bad, .bad, .bad, .bad, .bad, .bad, .bad, .bad, .bad, .bad, .bad, .bad, .bad, .bad, .bad, .bad, .bad, .bad, .bad, .bad, .bad, .bad, .bad, .bad, .bad, .bad, .bad, .bad, .bad, .bad, .bad, .bad, .bad, .bad, .bad, .bad, .bad, .bad, .bad, .bad, .bad, .bad, .bad, .bad, .bad, .bad, .bad, .bad, .bad, .bad, .bad, .bad], h := [] } ∧ J (Prod.fst a, Prod.fst (Prod.snd a), Prod.fst (Prod.snd (Prod.snd a)), IntKind.wrap IntKind.i64 (IntKind.wrap IntKind.i64 (IntKind.wrap IntKind.i64 (Prod.fst (Prod.snd (Prod.snd a))) - (97 : Int)) + (10 : Int)))) (Wk (0 : Nat) { t := [AV.s s, .bad, .bad, AV.i IntKind.i64 (Prod.fst a), AV.i IntKind.i64 (Prod.fst (Prod.snd a)), AV.i IntKind.u8 (Prod.fst (Prod.snd (Prod.snd a))), AV.i IntKind.i64 (Prod.snd (Prod.snd (Prod.snd a))), .bad, .bad, .bad, .bad, .bad, .bad, .bad, .bad, .bad, .bad, .bad, .bad, .bad, .bad, .bad, .bad, .bad, .bad, .bad, .bad, .bad, .bad, .bad, .bad, .bad, .bad, .bad, .bad, .bad, .bad, .bad, .bad, .bad, .bad, .bad, .bad, .bad, .bad, .bad, .bad, .bad, .bad, .bad, .bad, .bad, .bad, .bad, .bad, .bad, .bad, .bad, .bad, .bad], h := [] } { t := [AV.s s, .bad, .bad, AV.i IntKind.i64 a.1, AV.i IntKind.i64 (Prod.snd a).1, AV.i IntKind.u8 (Prod.snd (Prod.snd a)).1, AV.i IntKind.i64 (Prod.snd (Prod.snd a)).2, .bad, .bad, .bad, .bad, .bad, .bad, .bad, .bad, .bad, .bad, .bad, .bad, .bad, .bad, .bad, .bad, .bad, .bad, .bad, .bad, .bad, .bad, .bad, .bad, .bad, .bad, .bad, .bad, .bad, .bad, .bad, .bad, .bad, .bad, .bad, .bad, .bad, .bad, .bad, .bad, .bad, .bad, .bad, .bad, .bad, .bad, .bad, .bad, .bad, .bad, .bad, .bad, .bad], h := [] } ∧ J (Prod.fst a, Prod.fst (Prod.snd a), Prod.fst (Prod.snd (Prod.snd a)), Prod.snd (Prod.snd (Prod.snd a))))) (Wk (0 : Nat) { t := [AV.s s, .bad, .bad, AV.i IntKind.i64 (Prod.fst a), AV.i IntKind.i64 (Prod.fst (Prod.snd a)), AV.i IntKind.u8 (Prod.fst (Prod.snd (Prod.snd a))), AV.i IntKind.i64 (Prod.snd (Prod.snd (Prod.snd a))), .bad, .bad, .bad, .bad, .bad, .bad, .bad, .bad, .bad, .bad, .bad, .bad, .bad, .bad, .bad, .bad, .bad, .bad, .bad, .bad, .bad, .bad, .bad, .bad, .bad, .bad, .bad, .bad, .bad, .bad, .bad, .bad, .bad, .bad, .bad, .bad, .bad, .bad, .bad, .bad, .bad, .bad, .bad, .bad, .bad, .bad, .bad, .bad, .bad, .bad, .bad, .bad, .bad], h := [] } { t := [AV.s s, .bad, .bad, AV.i IntKind.i64 a.1, AV.i IntKind.i64 (Prod.snd a).1, AV.i IntKind.u8 (Prod.snd (Prod.snd a)).1, AV.i IntKind.i64 (Prod.snd (Prod.snd a)).2, .bad, .bad, .bad, .bad, .bad, .bad, .bad, .bad, .bad, .bad, .bad, .bad, .bad, .bad, .bad, .bad, .bad, .bad, .bad, .bad, .bad, .bad, .bad, .bad, .bad, .bad, .bad, .bad, .bad, .bad, .bad, .bad, .bad, .bad, .bad, .bad, .bad, .bad, .bad, .bad, .bad, .bad, .bad, .bad, .bad, .bad, .bad, .bad, .bad, .bad, .bad, .bad, .bad], h := [] } ∧ J (Prod.fst a, Prod.fst (Prod.snd a), Prod.fst (Prod.snd (Prod.snd a)), Prod.snd (Prod.snd (Prod.snd a)))) ∧ ∀ (a : Int × Int × Int × Int), J a → ∃ (J : Int × Int × Int → Prop), br (decide (Prod.fst (Prod.snd (Prod.snd a)) ≥ (65 : Int))) (br (decide (Prod.fst (Prod.snd (Prod.snd a)) ≤ (70 : Int))) (Wk (0 : Nat) { t := [AV.s s, .bad, .bad, AV.i IntKind.i64 (Prod.fst a), AV.i IntKind.i64 (Prod.fst (Prod.snd a)), .bad, AV.i IntKind.i64 (IntKind.wrap IntKind.i64 (IntKind.wrap IntKind.i64 (IntKind.wrap IntKind.i64 (Prod.fst (Prod.snd (Prod.snd a))) - (65 : Int)) + (10 : Int))), .bad, .bad, .bad, .bad, .bad, .bad, .bad, .bad, .bad, .bad, .bad, .bad, .bad, .bad, .bad, .bad, .bad, .bad, .bad, .bad, .bad, .bad, .bad, .bad, .bad, .bad, .bad, .bad, .bad, .bad, .bad, .bad, .bad, .bad, .bad, .bad, .bad, .bad, .bad, .bad, .bad, .bad, .bad, .bad, .bad, .bad, .bad, .bad, .bad, .bad, .bad, .bad, .bad], h := [] } { t := [AV.s s, .bad, .bad, AV.i IntKind.i64 a.1, AV.i IntKind.i64 (Prod.snd a).1, .bad, AV.i IntKind.i64 (IntKind.wrap IntKind.i64 (IntKind.wrap IntKind.i64 (IntKind.wrap IntKind.i64 (Prod.fst (Prod.snd (Prod.snd a))) - (65 : Int)) + (10 : Int))), .bad, .bad, .bad, .bad, .bad, .bad, .bad, .bad, .bad, .bad, .bad, .bad, .bad, .bad, .bad, .bad, .bad, .bad, .bad, .bad, .bad, .bad, .bad, .bad, .bad, .bad, .bad, .bad, .bad, .bad, .bad, .bad, .bad, .bad, .bad, .bad, .bad, .bad, .bad, .bad, .bad, .bad, .bad, .bad, .bad, .bad, .bad, .bad, .bad, .bad, .bad, .bad, .bad], h := [] } ∧ J (Prod.fst a, Prod.fst (Prod.snd a), IntKind.wrap IntKind.i64 (IntKind.wrap IntKind.i64 (IntKind.wrap IntKind.i64 (Prod.fst (Prod.snd (Prod.snd a))) - (65 : Int)) + (10 : Int)))) (Wk (0 : Nat) { t := [AV.s s, .bad, .bad, AV.i IntKind.i64 (Prod.fst a), AV.i IntKind.i64 (Prod.fst (Prod.snd a)), .bad, AV.i IntKind.i64 (Prod.snd (Prod.snd (Prod.snd a))), .bad, .bad, .bad, .bad, .bad, .bad, .bad, .bad, .bad, .bad, .bad, .bad, .bad, .bad, .bad, .bad, .bad, .bad, .bad, .bad, .bad, .bad, .bad, .bad, .bad, .bad, .bad, .bad, .bad, .bad, .bad, .bad, .bad, .bad, .bad, .bad, .bad, .bad, .bad, .bad, .bad, .bad, .bad, .bad, .bad, .bad, .bad, .bad, .bad, .bad, .bad, .bad, .bad], h := [] } { t := [AV.s s, .bad, .bad, AV.i IntKind.i64 a.1, AV.i IntKind.i64 (Prod.snd a).1, .bad, AV.i IntKind.i64 (Prod.snd (Prod.snd a)).2, .bad, .bad, .bad, .bad, .bad, .bad, .bad, .bad, .bad, .bad, .bad, .bad, .bad, .bad, .bad, .bad, .bad, .bad, .bad, .bad, .bad, .bad, .bad, .bad, .bad, .bad, .bad, .bad, .bad, .bad, .bad, .bad, .bad, .bad, .bad, .bad, .bad, .bad, .bad, .bad, .bad, .bad, .bad, .bad, .bad, .bad, .bad, .bad, .bad, .bad, .bad, .bad, .bad], h := [] } ∧ J (Prod.fst a, Prod.fst (Prod.snd a), Prod.snd (Prod.snd (Prod.snd a))))) (Wk (0 : Nat) { t := [AV.s s, .bad, .bad, AV.i IntKind.i64 (Prod.fst a), AV.i IntKind.i64 (Prod.fst (Prod.snd a)), .bad, AV.i IntKind.i64 (Prod.snd (Prod.snd (Prod.snd a))), .bad, .bad, .bad, .bad, .bad, .bad, .bad, .bad, .bad, .bad, .bad, .bad, .bad, .bad, .bad, .bad, .bad, .bad, .bad, .bad, .bad, .bad, .bad, .bad, .bad, .bad, .bad, .bad, .bad, .bad, .bad, .bad, .bad, .bad, .bad, .bad, .bad, .bad, .bad, .bad, .bad, .bad, .bad, .bad, .bad, .bad, .bad, .bad, .bad, .bad, .bad, .bad, .bad], h := [] } { t := [AV.s s, .bad, .bad, AV.i IntKind.i64 a.1, AV.i IntKind.i64 (Prod.snd a).1, .bad, AV.i IntKind.i64 (Prod.snd (Prod.snd a)).2, .bad, .bad, .bad, .bad, .bad, .bad, .bad, .bad, .bad, .bad, .bad, .bad, .bad, .bad, .bad, .bad, .bad, .bad, .bad, .bad, .bad, .bad, .bad, .bad, .bad, .bad, .bad, .bad, .bad, .bad, .bad, .bad, .bad, .bad, .bad, .bad, .bad, .bad, .bad, .bad, .bad, .bad, .bad, .bad, .bad, .bad, .bad, .bad, .bad, .bad, .bad, .bad, .bad], h := [] } ∧ J (Prod.fst a, Prod.fst (Prod.snd a), Prod.snd (Prod.snd (Prod.snd a)))) ∧ ∀ (a : Int × Int × Int), J a → br (decide (Prod.snd (Prod.snd a) < (0 : Int))) (R (AV.i IntKind.i64 (-1 : Int)) []) (Wk (0 : Nat) { t := [AV.s s, .bad, .bad, AV.i IntKind.i64 (IntKind.wrap IntKind.i64 (IntKind.wrap IntKind.i64 ((16 : Int) * Prod.fst a) + Prod.snd (Prod.snd a))), AV.i IntKind.i64 (IntKind.wrap IntKind.i64 (Prod.fst (Prod.snd a) + (1 : Int))), .bad, .bad, .bad, .bad, .bad, .bad, .bad, .bad, .bad, .bad, .bad, .bad, .bad, .bad, .bad, .bad, .bad, .bad, .bad, .bad, .bad, .bad, .bad, .bad, .bad, .bad, .bad, .bad, .bad, .bad, .bad, .bad, .bad, .bad, .bad, .bad, .bad, .bad, .bad, .bad, .bad, .bad, .bad, .bad, .bad, .bad, .bad, .bad, .bad, .bad, .bad, .bad, .bad, .bad, .bad], h := [] } { t := [AV.s s, .bad, .bad, AV.i IntKind.i64 (IntKind.wrap IntKind.i64 (IntKind.wrap IntKind.i64 ((16 : Int) * Prod.fst a) + Prod.snd (Prod.snd a))), AV.i IntKind.i64 (IntKind.wrap IntKind.i64 (Prod.fst (Prod.snd a) + (1 : Int))), .bad, .bad, .bad, .bad, .bad, .bad, .bad, .bad, .bad, .bad, .bad, .bad, .bad, .bad, .bad, .bad, .bad, .bad, .bad, .bad, .bad, .bad, .bad, .bad, .bad, .bad, .bad, .bad, .bad, .bad, .bad, .bad, .bad, .bad, .bad, .bad, .bad, .bad, .bad, .bad, .bad, .bad, .bad, .bad, .bad, .bad, .bad, .bad, .bad, .bad, .bad, .bad, .bad, .bad, .bad], h := [] } ∧ ∃ (m : Nat), Holds (m < n) ∧ I m (IntKind.wrap IntKind.i64 (IntKind.wrap IntKind.i64 ((16 : Int) * Prod.fst a) + Prod.snd (Prod.snd a)), IntKind.wrap IntKind.i64 (Prod.fst (Prod.snd a) + (1 : Int))))) (R (AV.i IntKind.i64 (Prod.fst a)) [])))) := by kernel_rfl
def leadB (s : ByteArray) : Bool := decide (1 < s.size) && ((s.data.toList.getD 0 0).toNat == 48)
/-- A decimal number's word: its value and whether it is one; the document's answer, -1 for none. -/
def decS (s : ByteArray) (most : Int) : Int × Bool := ((digS dig10 10 3 s most).1, (digS dig10 10 3 s most).2 && !leadB s)
def numS (s : ByteArray) (most : Int) : Int := if (decS s most).2 = true then (decS s most).1 else -1
theorem dig10_some {b d : Nat} (h : dig10 b = some d) : 48 ≤ b ∧ b ≤ 57 ∧ d = b - 48 := by
  unfold dig10 at h
  split at h
  · rename_i g; cases h; exact ⟨g.1, g.2, rfl⟩
  · cases h
theorem dec_two {u : Nat} (h : 10 ≤ u) (h' : u < 100) : Lib.decDigits u = [UInt8.ofNat (48 + u / 10), UInt8.ofNat (48 + u % 10)] := by
  rw [Lib.decDigits, dif_neg (by omega), Lib.decDigits, dif_pos (by omega)]; rfl
theorem dec_three {u : Nat} (h : 100 ≤ u) (h' : u < 1000) : Lib.decDigits u = [UInt8.ofNat (48 + u / 10 / 10), UInt8.ofNat (48 + u / 10 % 10), UInt8.ofNat (48 + u % 10)] := by
  rw [Lib.decDigits, dif_neg (by omega), dec_two (by omega) (by omega)]; rfl
theorem ofNat_eq {b : UInt8} {n : Nat} (h : n = b.toNat) : UInt8.ofNat n = b := by subst h; exact UInt8.ofNat_toNat
theorem itoa_lead : ∀ {l : List UInt8} {v : Nat}, l.length ≤ 3 → 0 < l.length → foldD dig10 10 l 0 = some v → (Lib.itoa (v : Int) == l) = !(decide (1 < l.length) && ((l.getD 0 0).toNat == 48))
  | [], v, _, h, _ => absurd h (by decide)
  | [a], v, _, _, h => by
    simp only [foldD] at h
    cases ha : dig10 a.toNat with
    | none => rw [ha] at h; cases h
    | some d =>
      rw [ha] at h
      cases h
      obtain ⟨g1, g2, rfl⟩ := dig10_some ha
      have e : Lib.itoa ((0 * 10 + (a.toNat - 48) : Nat) : Int) = [a] := by
        unfold Lib.itoa
        rw [if_neg (by omega), Lib.decDigits, dif_pos (by omega), ofNat_eq (b := a) (by omega)]
      rw [e]; simp
  | [a, b], v, _, _, h => by
    simp only [foldD] at h
    cases ha : dig10 a.toNat with
    | none => rw [ha] at h; cases h
    | some d =>
      rw [ha] at h
      simp only at h
      cases hb : dig10 b.toNat with
      | none => rw [hb] at h; cases h
      | some d' =>
        rw [hb] at h
        cases h
        obtain ⟨g1, g2, rfl⟩ := dig10_some ha
        obtain ⟨k1, k2, rfl⟩ := dig10_some hb
        unfold Lib.itoa
        rw [if_neg (by omega), Int.toNat_natCast]
        by_cases z : a.toNat = 48
        · rw [Lib.decDigits, dif_pos (by omega)]
          simp [z]
        · rw [dec_two (by omega) (by omega), ofNat_eq (b := a) (by omega), ofNat_eq (b := b) (by omega)]
          simp [z]
  | [a, b, c], v, _, _, h => by
    simp only [foldD] at h
    cases ha : dig10 a.toNat with
    | none => rw [ha] at h; cases h
    | some d =>
      rw [ha] at h
      simp only at h
      cases hb : dig10 b.toNat with
      | none => rw [hb] at h; cases h
      | some d' =>
        rw [hb] at h
        simp only at h
        cases hc : dig10 c.toNat with
        | none => rw [hc] at h; cases h
        | some d'' =>
          rw [hc] at h
          cases h
          obtain ⟨g1, g2, rfl⟩ := dig10_some ha
          obtain ⟨k1, k2, rfl⟩ := dig10_some hb
          obtain ⟨m1, m2, rfl⟩ := dig10_some hc
          unfold Lib.itoa
          rw [if_neg (by omega), Int.toNat_natCast]
          by_cases z : a.toNat = 48
          · by_cases y : b.toNat = 48
            · rw [Lib.decDigits, dif_pos (by omega)]
              simp [z]
            · rw [dec_two (by omega) (by omega)]
              simp [z]
          · rw [dec_three (by omega) (by omega), ofNat_eq (b := a) (by omega), ofNat_eq (b := b) (by omega), ofNat_eq (b := c) (by omega)]
            simp [z]
  | _ :: _ :: _ :: _ :: _, v, h, _, _ => absurd h (by simp)
theorem digS_true {s : ByteArray} {most v : Int} (h : digS dig10 10 3 s most = (v, true)) : ∃ n : Nat, v = n ∧ s.size ≤ 3 ∧ 0 < s.size ∧ foldD dig10 10 s.data.toList 0 = some n ∧ v ≤ most := by
  unfold digS at h
  split at h
  · rename_i h3
    split at h
    · rename_i n hn
      rw [Prod.mk.injEq, Bool.and_eq_true, decide_eq_true_eq, decide_eq_true_eq] at h
      exact ⟨n, h.1.symm, h3, h.2.1, hn, by rw [← h.1]; exact h.2.2⟩
    · rw [Prod.mk.injEq] at h; exact absurd h.2 (by decide)
  · rw [Prod.mk.injEq] at h; exact absurd h.2 (by decide)
def digF (b m : Int) (s : ByteArray) (most : Int) : Int × Bool := if b = 10 then digS dig10 10 3 s most else digS dig16 16 4 s most
def itoaB (n : Int) : ByteArray := ⟨(Lib.itoa n).toArray⟩
theorem list_beq (a b : ByteArray) : (a.toList == b.toList) = (a.data.toList == b.data.toList) := by
  rw [ByteArray.toList_eq, ByteArray.toList_eq]
theorem fold_lt : ∀ {l : List UInt8} {n v : Nat}, foldD dig10 10 l n = some v → v + 1 ≤ (n + 1) * 10 ^ l.length
  | [], n, v, h => by cases h; simp
  | b :: l, n, v, h => by
    simp only [foldD] at h
    cases hb : dig10 b.toNat with
    | none => rw [hb] at h; cases h
    | some d =>
      rw [hb] at h
      obtain ⟨g1, g2, rfl⟩ := dig10_some hb
      have := fold_lt h
      rw [List.length_cons, Nat.pow_succ]
      have e : n * 10 + (b.toNat - 48) + 1 ≤ (n + 1) * 10 := by omega
      calc v + 1 ≤ (n * 10 + (b.toNat - 48) + 1) * 10 ^ l.length := this
        _ ≤ ((n + 1) * 10) * 10 ^ l.length := Nat.mul_le_mul_right _ e
        _ = (n + 1) * (10 ^ l.length * 10) := by rw [Nat.mul_assoc, Nat.mul_comm 10]
theorem run40 (s : ByteArray) (most : Int) : Holds (wpFn P (tcons 58 (tdig digF) (tcons 32 (titoa itoaB) tnil)) noW noL 0 Go.Proofs.Tryd.f40 [.s s, .i .i64 most] [] fun v _ => v = digAns (decS s most)) := by
  refine ⟨?_⟩
  rw [vc40]
  refine ⟨⟨.inl ⟨rfl, rfl⟩⟩, ?_⟩
  rintro v ok ⟨hd⟩
  have hd : digS dig10 10 3 s most = (v, ok) := hd
  unfold decS
  rw [hd]
  refine br_intro (fun h => ?_) (fun h => ?_)
  · subst h
    obtain ⟨n, rfl, h3, h0, hf, _⟩ := digS_true hd
    have hl := fold_lt hf
    have hp : 10 ^ s.data.toList.length ≤ 10 ^ 3 := Nat.pow_le_pow_right (by decide) (by rw [size_list]; exact h3)
    have hp' : (10 : Nat) ^ 3 = 1000 := rfl
    refine ⟨⟨by omega, by omega⟩, ?_⟩
    rintro t ⟨rfl⟩
    have e := itoa_lead (l := s.data.toList) (v := n) (by rw [size_list]; exact h3) (by rw [size_list]; exact h0) hf
    rw [size_list] at e
    have e2 : (ByteArray.toList (itoaB n) == ByteArray.toList s) = !leadB s := by
      rw [list_beq]
      show ((Lib.itoa n).toArray.toList == s.data.toList) = _
      rw [List.toList_toArray, e]
      rfl
    rw [e2]
    simp only [digAns, Bool.true_and]
  · subst h
    simp only [digAns, Bool.false_and]
set_option maxRecDepth 100000 in
theorem run52 (s : ByteArray) (most : Int) : Holds (wpFn P tnil noW (head52 s most) 0 Go.Proofs.Tryd.f52 [.s s, .i .i64 most] [] fun v _ => v = .i .i64 (numS s most)) := by
  refine ⟨?_⟩
  rw [vc52]
  have none (h : (digS dig10 10 3 s most).2 = false ∨ leadB s = true) : AV.i .i64 (-1) = .i .i64 (numS s most) := by
    unfold numS decS
    rw [if_neg]
    intro t
    simp only [Bool.and_eq_true, Bool.not_eq_true'] at t
    rcases h with h | h
    · rw [h] at t; exact absurd t.1 (by decide)
    · rw [h] at t; exact absurd t.2 (by decide)
  have byte {i : Nat} (h : i < s.size) : s[i]? = some (s.data.toList.getD i 0) := by
    have h' : i < s.data.toList.length := by rw [size_list]; exact h
    rw [bget, List.getD_eq_getElem?_getD, List.getElem?_eq_getElem h']; rfl
  refine ⟨fun _ => (0 < s.size ∧ s.size ≤ 3) ∧ leadB s = false, br_intro (fun h => none (.inl ?_)) (fun h0 => br_intro (fun h => none (.inl ?_)) (fun h3 => br_intro (fun h1 => ?_) (fun h1 => ⟨Wk.refl _ _, ?_⟩))), ?_⟩
  · rw [beq_iff_eq] at h
    unfold digS
    rw [if_pos (by omega)]
    split
    · rw [decide_eq_false (by omega), Bool.false_and]
    · rfl
  · simp only [decide_eq_true_eq] at h
    rw [dig_long (by omega)]
  · simp only [decide_eq_true_eq] at h1
    simp only [decide_eq_false_iff_not] at h3
    refine ⟨⟨Int.le_refl _⟩, _, ⟨byte (show 0 < s.size by omega)⟩, br_intro (fun g => none (.inr ?_)) (fun g => ⟨Wk.refl _ _, ⟨by omega, by omega⟩, ?_⟩)⟩
    · rw [beq_iff_eq] at g
      unfold leadB
      rw [decide_eq_true (show 1 < s.size by omega), Bool.true_and, beq_iff_eq]; omega
    · unfold leadB
      rw [beq_eq_false_iff_ne] at g
      rw [decide_eq_true (show 1 < s.size by omega), Bool.true_and, beq_eq_false_iff_ne]; omega
  · rw [beq_eq_false_iff_ne] at h0
    simp only [decide_eq_false_iff_not] at h1 h3
    refine ⟨⟨by omega, by omega⟩, ?_⟩
    unfold leadB
    rw [decide_eq_false (by omega), Bool.false_and]
  · rintro _ ⟨⟨z0, z3⟩, hlead⟩
    refine ⟨Wk.refl _ _, fun m q => ∃ k v : Nat, q.1 = (v : Int) ∧ q.2 = (k : Int) ∧ k + m = s.size ∧ v + 1 ≤ 10 ^ k ∧ foldD dig10 10 (s.data.toList.take k) 0 = some v, s.size, ⟨0, 0, rfl, rfl, by omega, by decide, rfl⟩, ?_⟩
    rintro ⟨n, c⟩ m ⟨k, v, e1, e2, hm, hv, hf⟩
    simp only at e1 e2
    subst e1 e2
    have hp : 10 ^ k ≤ 10 ^ 3 := Nat.pow_le_pow_right (by decide) (by omega)
    have hp' : (10 : Nat) ^ 3 = 1000 := rfl
    refine br_intro (fun hi => ?_) (fun hi => ?_)
    · simp only [decide_eq_true_eq] at hi
      have hk : k < s.size := by omega
      have bad (hr : ¬(48 ≤ (s.data.toList.getD k 0).toNat ∧ (s.data.toList.getD k 0).toNat ≤ 57)) : AV.i .i64 (-1) = .i .i64 (numS s most) := none (.inl (by
        rw [dig_bad (k := k) hk (by unfold dig10; rw [if_neg hr])]))
      simp only [Int.toNat_natCast]
      refine ⟨⟨Int.natCast_nonneg _⟩, _, ⟨byte hk⟩, br_intro (fun g => bad fun t => ?_) (fun g => ⟨⟨Int.natCast_nonneg _⟩, _, ⟨byte hk⟩, br_intro (fun g' => bad fun t => ?_) (fun g' => ⟨⟨Int.natCast_nonneg _⟩, _, ⟨byte hk⟩, Wk.refl _ _, m - 1, ⟨by omega⟩, k + 1, v * 10 + ((s.data.toList.getD k 0).toNat - 48), ?_, i64w (x := (k : Int) + 1) (by omega) (by omega), by omega, ?_, ?_⟩)⟩)⟩
      · simp only [decide_eq_true_eq] at g; omega
      · simp only [decide_eq_true_eq] at g'; omega
      · simp only [decide_eq_false_iff_not] at g g'
        rw [i64w (x := 10 * (v : Int)) (by omega) (by omega), i64w (x := ((s.data.toList.getD k 0).toNat : Int)) (by omega) (by omega), i64w (x := 10 * (v : Int) + ((s.data.toList.getD k 0).toNat : Int)) (by omega) (by omega), i64w (by omega) (by omega)]
        omega
      · simp only [decide_eq_false_iff_not] at g g'
        rw [Nat.pow_succ]; omega
      · simp only [decide_eq_false_iff_not] at g g'
        refine fold_step hk hf ?_
        unfold dig10
        rw [if_pos (by omega)]
    · simp only [decide_eq_false_iff_not] at hi
      have hall : foldD dig10 10 s.data.toList 0 = some v := by
        rw [← hf, List.take_of_length_le (by rw [size_list]; omega)]
      have hd : digS dig10 10 3 s most = ((v : Int), decide (0 < s.size) && decide ((v : Int) ≤ most)) := by
        unfold digS
        rw [if_pos (by omega), hall]
      refine br_intro (fun hc => none (.inl ?_)) (fun hc => ?_)
      · simp only [decide_eq_true_eq] at hc
        rw [hd]
        show (decide (0 < s.size) && decide ((v : Int) ≤ most)) = false
        rw [decide_eq_false (show ¬ (v : Int) ≤ most by omega), Bool.and_false]
      · simp only [decide_eq_false_iff_not] at hc
        unfold numS decS
        rw [hd, hlead]
        simp only
        rw [decide_eq_true (show 0 < s.size by omega), decide_eq_true (show (v : Int) ≤ most by omega)]
        rfl
end Go.Proofs.YtohaalilplngnaaDoor.ClassRun
/- The document's groups; contracts of words of numbers. -/
set_option linter.unusedVariables false
set_option linter.unusedSimpArgs false
open Go Go.Proofs.YtohaalilplngnaaDoor.Eng Go.RowKit
namespace Go.Proofs.YtohaalilplngnaaDoor.ClassRun
/-- A group's word, -1 for none. -/
def hexS (s : ByteArray) : Int := if 0 < s.size ∧ s.size ≤ 4 then (match foldD dig16 16 s.data.toList 0 with
    | some v => (v : Int)
    | none => -1) else -1
def d1 (b : Nat) : Int := if 48 ≤ b ∧ b ≤ 57 then (b : Int) - 48 else -1
def d2 (b : Nat) : Int := if 97 ≤ b ∧ b ≤ 102 then (b : Int) - 87 else d1 b
def d3 (b : Nat) : Int := if 65 ≤ b ∧ b ≤ 70 then (b : Int) - 55 else d2 b
theorem d3_some {b : Nat} (h : ¬ d3 b < 0) : dig16 b = some (d3 b).toNat ∧ d3 b ≤ 15 := by
  unfold d3 d2 d1 at *
  unfold dig16
  split at h
  · rw [if_neg (by omega), if_neg (by omega), if_pos (by assumption), if_pos (by assumption)]
    exact ⟨by congr 1; omega, by omega⟩
  · split at h
    · rw [if_neg (by omega), if_pos (by assumption), if_neg (by assumption), if_pos (by assumption)]
      exact ⟨by congr 1; omega, by omega⟩
    · split at h
      · rw [if_pos (by assumption), if_neg (by assumption), if_neg (by assumption), if_pos (by assumption)]
        exact ⟨by congr 1; omega, by omega⟩
      · omega
theorem d3_none {b : Nat} (h : d3 b < 0) : dig16 b = none := by
  unfold d3 d2 d1 at h
  unfold dig16
  split at h
  · omega
  · split at h
    · omega
    · split at h
      · omega
      · rw [if_neg (by assumption), if_neg (by assumption), if_neg (by assumption)]
theorem foldD_none {dg : Nat → Option Nat} {base : Nat} {s : ByteArray} {k : Nat} (hk : k < s.size) (hd : dg (s.data.toList.getD k 0).toNat = none) : foldD dg base s.data.toList 0 = none := by
  have hk' : k < s.data.toList.length := by rw [size_list]; exact hk
  have e : s.data.toList = s.data.toList.take k ++ (s.data.toList[k] :: s.data.toList.drop (k + 1)) := by
    rw [← List.drop_eq_getElem_cons hk', List.take_append_drop]
  rw [List.getD_eq_getElem?_getD, List.getElem?_eq_getElem hk', Option.getD_some] at hd
  rw [e, foldD_append]
  cases foldD dg base (s.data.toList.take k) 0 with
  | none => rfl
  | some v => simp only [Option.bind_some, foldD, hd]
set_option maxRecDepth 100000 in
theorem run53 (s : ByteArray) : Holds (wpFn P tnil noW (head53 s) 0 Go.Proofs.Tryd.f53 [.s s] [] fun v _ => v = .i .i64 (hexS s)) := by
  refine ⟨?_⟩
  rw [vc53]
  have byte {i : Nat} (h : i < s.size) : s[i]? = some (s.data.toList.getD i 0) := by
    have h' : i < s.data.toList.length := by rw [size_list]; exact h
    rw [bget, List.getD_eq_getElem?_getD, List.getElem?_eq_getElem h']; rfl
  have no (h : ¬(0 < s.size ∧ s.size ≤ 4)) : AV.i .i64 (-1) = .i .i64 (hexS s) := by
    unfold hexS; rw [if_neg h]
  refine br_intro (fun h => no (by rw [beq_iff_eq] at h; omega)) (fun h0 => br_intro (fun h => no (by simp only [decide_eq_true_eq] at h; omega)) (fun h4 => ?_))
  rw [beq_eq_false_iff_ne] at h0
  simp only [decide_eq_false_iff_not] at h4
  have hs : 0 < s.size ∧ s.size ≤ 4 := ⟨by omega, by omega⟩
  refine ⟨Wk.refl _ _, fun m q => ∃ k v : Nat, q.1 = (v : Int) ∧ q.2 = (k : Int) ∧ k + m = s.size ∧ v + 1 ≤ 16 ^ k ∧ foldD dig16 16 (s.data.toList.take k) 0 = some v, s.size, ⟨0, 0, rfl, rfl, by omega, by decide, rfl⟩, ?_⟩
  rintro ⟨n, c⟩ m ⟨k, v, e1, e2, hm, hv, hf⟩
  simp only at e1 e2
  subst e1 e2
  have hp : 16 ^ k ≤ 16 ^ 4 := Nat.pow_le_pow_right (by decide) (by omega)
  have hp' : (16 : Nat) ^ 4 = 65536 := rfl
  refine br_intro (fun hi => ?_) (fun hi => ?_)
  · simp only [decide_eq_true_eq] at hi
    have hk : k < s.size := by omega
    have hb : (s.data.toList.getD k 0).toNat < 256 := UInt8.toNat_lt _
    simp only [Int.toNat_natCast]
    refine ⟨⟨Int.natCast_nonneg _⟩, _, ⟨byte hk⟩, ?_⟩
    generalize hB : (s.data.toList.getD k 0).toNat = B at *
    have wB : IntKind.wrap .i64 (B : Int) = B := i64w (by omega) (by omega)
    refine ⟨fun q => q = ((v : Int), (k : Int), (B : Int), d1 B), br_intro (fun g => br_intro (fun g' => ⟨Wk.refl _ _, ?_⟩) (fun g' => ⟨Wk.refl _ _, ?_⟩)) (fun g => ⟨Wk.refl _ _, ?_⟩), ?_⟩
    · simp only [decide_eq_true_eq] at g g'
      rw [wB, i64w (by omega) (by omega)]
      unfold d1; rw [if_pos (by omega)]
    · simp only [decide_eq_true_eq, decide_eq_false_iff_not] at g g'
      unfold d1; rw [if_neg (by omega)]
    · simp only [decide_eq_false_iff_not] at g
      unfold d1; rw [if_neg (by omega)]
    rintro _ rfl
    simp only [wB]
    refine ⟨fun q => q = ((v : Int), (k : Int), (B : Int), d2 B), br_intro (fun g => br_intro (fun g' => ⟨Wk.refl _ _, ?_⟩) (fun g' => ⟨Wk.refl _ _, ?_⟩)) (fun g => ⟨Wk.refl _ _, ?_⟩), ?_⟩
    · simp only [decide_eq_true_eq] at g g'
      rw [i64w (x := (B : Int) - 97) (by omega) (by omega), i64w (by omega) (by omega)]
      unfold d2; rw [if_pos (by omega)]
      simp only [Prod.mk.injEq, true_and]; omega
    · simp only [decide_eq_true_eq, decide_eq_false_iff_not] at g g'
      unfold d2; rw [if_neg (by omega)]
    · simp only [decide_eq_false_iff_not] at g
      unfold d2; rw [if_neg (by omega)]
    rintro _ rfl
    simp only [wB]
    refine ⟨fun q => q = ((v : Int), (k : Int), d3 B), br_intro (fun g => br_intro (fun g' => ⟨Wk.refl _ _, ?_⟩) (fun g' => ⟨Wk.refl _ _, ?_⟩)) (fun g => ⟨Wk.refl _ _, ?_⟩), ?_⟩
    · simp only [decide_eq_true_eq] at g g'
      rw [i64w (x := (B : Int) - 65) (by omega) (by omega), i64w (by omega) (by omega)]
      unfold d3; rw [if_pos (by omega)]
      simp only [Prod.mk.injEq, true_and]; omega
    · simp only [decide_eq_true_eq, decide_eq_false_iff_not] at g g'
      unfold d3; rw [if_neg (by omega)]
    · simp only [decide_eq_false_iff_not] at g
      unfold d3; rw [if_neg (by omega)]
    rintro _ rfl
    refine br_intro (fun g => ?_) (fun g => ⟨Wk.refl _ _, m - 1, ⟨by omega⟩, k + 1, v * 16 + (d3 B).toNat, ?_, i64w (x := (k : Int) + 1) (by omega) (by omega), by omega, ?_, ?_⟩)
    · simp only [decide_eq_true_eq] at g
      unfold hexS
      rw [if_pos hs, foldD_none hk (by rw [hB]; exact d3_none g)]
    · simp only [decide_eq_false_iff_not] at g
      have := (d3_some g).2
      simp only
      rw [i64w (x := 16 * (v : Int)) (by omega) (by omega), i64w (by omega) (by omega)]
      omega
    · simp only [decide_eq_false_iff_not] at g
      have := (d3_some g).2
      rw [Nat.pow_succ]; omega
    · simp only [decide_eq_false_iff_not] at g
      exact fold_step hk hf (by rw [hB]; exact (d3_some g).1)
  · simp only [decide_eq_false_iff_not] at hi
    have hall : foldD dig16 16 s.data.toList 0 = some v := by
      rw [← hf, List.take_of_length_le (by rw [size_list]; omega)]
    unfold hexS
    rw [if_pos hs, hall]
end Go.Proofs.YtohaalilplngnaaDoor.ClassRun
/- A text's parts between one sign. -/
set_option linter.unusedVariables false
set_option linter.unusedSimpArgs false
open Go Go.Proofs.YtohaalilplngnaaDoor.Eng Go.RowKit
namespace Go.Proofs.YtohaalilplngnaaDoor.ClassRun
def splitU (c : UInt8) : List UInt8 → List (List UInt8)
  | [] => [[]]
  | x :: l => if x = c then [] :: splitU c l else match splitU c l with
    | h :: t => (x :: h) :: t
    | [] => [[x]]
theorem splitU_ne (c : UInt8) : ∀ (l : List UInt8), splitU c l ≠ []
  | [] => by simp [splitU]
  | x :: l => by
    unfold splitU
    split
    · simp
    · split <;> simp
theorem splitU_hit (c : UInt8) (l : List UInt8) : splitU c (c :: l) = [] :: splitU c l := by
  rw [splitU, if_pos rfl]
theorem splitU_miss {c x : UInt8} (h : x ≠ c) (l : List UInt8) : splitU c (x :: l) = match splitU c l with
    | h :: t => (x :: h) :: t
    | [] => [[x]] := by
  rw [splitU, if_neg h]
theorem splitU_cases (c : UInt8) : ∀ (l : List UInt8), (Lib.indexByte l c = -1 ∧ splitU c l = [l]) ∨ (∃ i : Nat, Lib.indexByte l c = i ∧ i < l.length ∧ splitU c l = l.take i :: splitU c (l.drop (i + 1)))
  | [] => .inl ⟨rfl, rfl⟩
  | x :: l => by
    by_cases h : x = c
    · subst h
      refine .inr ⟨0, ?_, by simp, ?_⟩
      · unfold Lib.indexByte
        rw [if_pos (beq_self_eq_true _)]; rfl
      · rw [splitU_hit]; rfl
    · rcases splitU_cases c l with ⟨h1, h2⟩ | ⟨i, h1, h2, h3⟩
      · refine .inl ⟨?_, ?_⟩
        · unfold Lib.indexByte
          rw [if_neg (by simpa using h), h1]; rfl
        · rw [splitU_miss h, h2]
      · refine .inr ⟨i + 1, ?_, by simp only [List.length_cons]; omega, ?_⟩
        · unfold Lib.indexByte
          rw [if_neg (by simpa using h), h1, if_neg (by rw [beq_iff_eq]; omega)]; omega
        · rw [splitU_miss h, h3]; rfl
def sepB (c : UInt8) : ByteArray := ⟨#[c]⟩
theorem indexB_byte (s : ByteArray) (c : UInt8) : Lib.indexB s (sepB c) = Lib.indexByte s.data.toList c := Lib.index_one _ _
theorem splitB_U (c : UInt8) : ∀ (k : Nat) (s : ByteArray), Lib.countB s (sepB c) = k → (Lib.splitB (sepB c) 0 k s).map (·.data.toList) = splitU c s.data.toList := by
  intro k
  induction k with
  | zero =>
    intro s hk
    rcases splitU_cases c s.data.toList with ⟨h1, h2⟩ | ⟨i, h1, h2, h3⟩
    · rw [h2]; rfl
    · have := Lib.countB_hit s (sepB c) i (Nat.le_refl 1) (by rw [indexB_byte]; exact h1)
      omega
  | succ k ih =>
    intro s hk
    rcases splitU_cases c s.data.toList with ⟨h1, h2⟩ | ⟨i, h1, h2, h3⟩
    · have := Lib.countB_miss s (sepB c) (by rw [indexB_byte]; exact h1)
      omega
    · have hc := Lib.countB_hit s (sepB c) i (Nat.le_refl 1) (by rw [indexB_byte]; exact h1)
      rw [Lib.splitB_hit (sepB c) 0 k s i (by rw [indexB_byte]; exact h1), h3, List.map_cons, ih _ (by omega), extract_list, extract_list]
      have e : (sepB c).size = 1 := rfl
      have e3 : s.data.toList.take s.size = s.data.toList := List.take_of_length_le (by rw [size_list]; exact Nat.le_refl _)
      rw [e, Nat.add_zero, List.drop_zero, e3]
/-- A text cut at a sign's first place. -/
theorem cut_U (c : UInt8) (l : List UInt8) : (Lib.cut l [c] = (l, [], false) ∧ splitU c l = [l]) ∨ (∃ i : Nat, i < l.length ∧ Lib.cut l [c] = (l.take i, l.drop (i + 1), true) ∧ splitU c l = l.take i :: splitU c (l.drop (i + 1))) := by
  rcases splitU_cases c l with ⟨h1, h2⟩ | ⟨i, h1, h2, h3⟩
  · refine .inl ⟨?_, h2⟩
    unfold Lib.cut
    rw [Lib.index_one, h1, if_neg (by omega)]
  · refine .inr ⟨i, h2, ?_, h3⟩
    unfold Lib.cut
    rw [Lib.index_one, h1, if_pos (by omega), Int.toNat_natCast]
    rfl
end Go.Proofs.YtohaalilplngnaaDoor.ClassRun
/- A text split by the document. -/
set_option linter.unusedVariables false
set_option linter.unusedSimpArgs false
open Go Go.Proofs.YtohaalilplngnaaDoor.Eng Go.RowKit
namespace Go.Proofs.YtohaalilplngnaaDoor.ClassRun
def head51 (s : ByteArray) (c : Int) : Nat → Option Head := fun r => match r with
  | 4 => some (Head.two (nilAt 5) (Get.and (Get.int 6) (Get.int 7)) (fun q => ⟨[.s s, .i .u8 c, .bad, .bad, .bad, .sn, .i .i64 q.1, .i .i64 q.2] ++ bads 26, []⟩)
      (Get.and (Get.int 6) (Get.and (Get.int 7) (Get.sl 5))) (fun q => ⟨[.s s, .i .u8 c, .bad, .bad, .bad, .sl 0 0 q.2.2.1 1 none, .i .i64 q.1, .i .i64 q.2.1] ++ bads 26, [.cells q.2.2.2 true]⟩))
  | _ => none
theorem vc51 (s : ByteArray) (c : Int) (R : AV → Hp → Prop) : (wpFn P tnil noW (head51 s c) 0 Go.Proofs.Tryd.f51 [.s s, .i .u8 c] [] R) = (Wk (0 : Nat) { t := [AV.s s, AV.i IntKind.u8 c, .bad, .bad, .bad, AV.sn, AV.i IntKind.i64 (0 : Int), AV.i IntKind.i64 (0 : Int), .bad, .bad, .bad, .bad, .bad, .bad, .bad, .bad, .bad, .bad, .bad, .bad, .bad, .bad, .bad, .bad, .bad, .bad, .bad, .bad, .bad, .bad, .bad, .bad, .bad, .bad], h := [] } { t := [AV.s s, AV.i IntKind.u8 c, .bad, .bad, .bad, AV.sn, AV.i IntKind.i64 (0 : Int), AV.i IntKind.i64 (0 : Int), .bad, .bad, .bad, .bad, .bad, .bad, .bad, .bad, .bad, .bad, .bad, .bad, .bad, .bad, .bad, .bad, .bad, .bad, .bad, .bad, .bad, .bad, .bad, .bad, .bad, .bad], h := [] } ∧ ∃ (I : Nat → Int × Int ⊕ Int × Int × Nat × List AV → Prop), ∃ (n : Nat), I n (Sum.inl ((0 : Int), (0 : Int))) ∧ (∀ (a : Int × Int) (n : Nat), I n (Sum.inl a) → br (decide (Prod.snd a < (↑(ByteArray.size s) : Int))) (Holds ((0 : Int) ≤ Prod.snd a) ∧ ∃ (b : UInt8), Holds (s[Int.toNat (Prod.snd a)]? = some b) ∧ br ((↑(UInt8.toNat b) : Int) == c) (Holds ((0 : Int) ≤ Prod.snd a ∧ Prod.snd a ≤ (↑(ByteArray.size s) : Int)) ∧ Holds ((0 : Int) ≤ Prod.fst a ∧ Prod.fst a ≤ (↑(Int.toNat (Prod.snd a)) : Int)) ∧ Holds ((1 : Nat) ≤ List.length [AV.s (ByteArray.extract s (Int.toNat (Prod.fst a)) (Int.toNat (Prod.snd a)))]) ∧ Holds ((16 : Nat) ≤ (140737488355328 : Nat)) ∧ Wk (0 : Nat) { t := [AV.s s, AV.i IntKind.u8 c, .bad, .bad, .bad, AV.sl (1 : Nat) (0 : Nat) (1 : Nat) (1 : Nat) none, AV.i IntKind.i64 (IntKind.wrap IntKind.i64 (Prod.snd a + (1 : Int))), AV.i IntKind.i64 (IntKind.wrap IntKind.i64 (Prod.snd a + (1 : Int))), .bad, .bad, .bad, .bad, .bad, .bad, .bad, .bad, .bad, .bad, .bad, .bad, .bad, .bad, .bad, .bad, .bad, .bad, .bad, .bad, .bad, .bad, .bad, .bad, .bad, .bad], h := [Blk.cells [AV.s (ByteArray.extract s (Int.toNat (Prod.fst a)) (Int.toNat (Prod.snd a)))] true, Blk.cells [AV.s (ByteArray.extract s (Int.toNat (Prod.fst a)) (Int.toNat (Prod.snd a)))] true] } { t := [AV.s s, AV.i IntKind.u8 c, .bad, .bad, .bad, AV.sl (0 : Nat) (0 : Nat) (1 : Nat) (1 : Nat) none, AV.i IntKind.i64 (IntKind.wrap IntKind.i64 (Prod.snd a + (1 : Int))), AV.i IntKind.i64 (IntKind.wrap IntKind.i64 (Prod.snd a + (1 : Int))), .bad, .bad, .bad, .bad, .bad, .bad, .bad, .bad, .bad, .bad, .bad, .bad, .bad, .bad, .bad, .bad, .bad, .bad, .bad, .bad, .bad, .bad, .bad, .bad, .bad, .bad], h := [Blk.cells [AV.s (ByteArray.extract s (Int.toNat (Prod.fst a)) (Int.toNat (Prod.snd a)))] true] } ∧ ∃ (m : Nat), Holds (m < n) ∧ I m (Sum.inr (IntKind.wrap IntKind.i64 (Prod.snd a + (1 : Int)), IntKind.wrap IntKind.i64 (Prod.snd a + (1 : Int)), (1 : Nat), [AV.s (ByteArray.extract s (Int.toNat (Prod.fst a)) (Int.toNat (Prod.snd a)))]))) (Wk (0 : Nat) { t := [AV.s s, AV.i IntKind.u8 c, .bad, .bad, .bad, AV.sn, AV.i IntKind.i64 (Prod.fst a), AV.i IntKind.i64 (IntKind.wrap IntKind.i64 (Prod.snd a + (1 : Int))), .bad, .bad, .bad, .bad, .bad, .bad, .bad, .bad, .bad, .bad, .bad, .bad, .bad, .bad, .bad, .bad, .bad, .bad, .bad, .bad, .bad, .bad, .bad, .bad, .bad, .bad], h := [] } { t := [AV.s s, AV.i IntKind.u8 c, .bad, .bad, .bad, AV.sn, AV.i IntKind.i64 a.1, AV.i IntKind.i64 (IntKind.wrap IntKind.i64 (Prod.snd a + (1 : Int))), .bad, .bad, .bad, .bad, .bad, .bad, .bad, .bad, .bad, .bad, .bad, .bad, .bad, .bad, .bad, .bad, .bad, .bad, .bad, .bad, .bad, .bad, .bad, .bad, .bad, .bad], h := [] } ∧ ∃ (m : Nat), Holds (m < n) ∧ I m (Sum.inl (Prod.fst a, IntKind.wrap IntKind.i64 (Prod.snd a + (1 : Int)))))) (Holds ((0 : Int) ≤ Prod.fst a ∧ Prod.fst a ≤ (↑(ByteArray.size s) : Int)) ∧ Holds ((1 : Nat) ≤ List.length [AV.s (ByteArray.extract s (Int.toNat (Prod.fst a)) (ByteArray.size s))]) ∧ Holds ((16 : Nat) ≤ (140737488355328 : Nat)) ∧ R (AV.sl (1 : Nat) (0 : Nat) (1 : Nat) (1 : Nat) none) [Blk.cells [AV.s (ByteArray.extract s (Int.toNat (Prod.fst a)) (ByteArray.size s))] true, Blk.cells [AV.s (ByteArray.extract s (Int.toNat (Prod.fst a)) (ByteArray.size s))] true])) ∧ ∀ (b : Int × Int × Nat × List AV) (n : Nat), I n (Sum.inr b) → br (decide (Prod.fst (Prod.snd b) < (↑(ByteArray.size s) : Int))) (Holds ((0 : Int) ≤ Prod.fst (Prod.snd b)) ∧ ∃ (b_1 : UInt8), Holds (s[Int.toNat (Prod.fst (Prod.snd b))]? = some b_1) ∧ br ((↑(UInt8.toNat b_1) : Int) == c) (Holds ((0 : Int) ≤ Prod.fst (Prod.snd b) ∧ Prod.fst (Prod.snd b) ≤ (↑(ByteArray.size s) : Int)) ∧ Holds ((0 : Int) ≤ Prod.fst b ∧ Prod.fst b ≤ (↑(Int.toNat (Prod.fst (Prod.snd b))) : Int)) ∧ Holds ((1 : Nat) ≤ List.length [AV.s (ByteArray.extract s (Int.toNat (Prod.fst b)) (Int.toNat (Prod.fst (Prod.snd b))))]) ∧ Holds ((Prod.fst (Prod.snd (Prod.snd b)) + (1 : Nat)) * (16 : Nat) ≤ (140737488355328 : Nat)) ∧ Holds (List.all [AV.s (ByteArray.extract s (Int.toNat (Prod.fst b)) (Int.toNat (Prod.fst (Prod.snd b))))] AV.one = true) ∧ Holds ((0 : Nat) + Prod.fst (Prod.snd (Prod.snd b)) * (1 : Nat) = List.length (Prod.snd (Prod.snd b)).2) ∧ Wk (0 : Nat) { t := [AV.s s, AV.i IntKind.u8 c, .bad, .bad, .bad, AV.sl (2 : Nat) (0 : Nat) (Prod.fst (Prod.snd (Prod.snd b)) + (1 : Nat)) (1 : Nat) none, AV.i IntKind.i64 (IntKind.wrap IntKind.i64 (Prod.fst (Prod.snd b) + (1 : Int))), AV.i IntKind.i64 (IntKind.wrap IntKind.i64 (Prod.fst (Prod.snd b) + (1 : Int))), .bad, .bad, .bad, .bad, .bad, .bad, .bad, .bad, .bad, .bad, .bad, .bad, .bad, .bad, .bad, .bad, .bad, .bad, .bad, .bad, .bad, .bad, .bad, .bad, .bad, .bad], h := [Blk.dead, Blk.cells [AV.s (ByteArray.extract s (Int.toNat (Prod.fst b)) (Int.toNat (Prod.fst (Prod.snd b))))] true, Blk.cells ((Prod.snd (Prod.snd b)).2 ++ [AV.s (ByteArray.extract s (Int.toNat (Prod.fst b)) (Int.toNat (Prod.fst (Prod.snd b))))]) true] } { t := [AV.s s, AV.i IntKind.u8 c, .bad, .bad, .bad, AV.sl (0 : Nat) (0 : Nat) (Prod.fst (Prod.snd (Prod.snd b)) + (1 : Nat)) (1 : Nat) none, AV.i IntKind.i64 (IntKind.wrap IntKind.i64 (Prod.fst (Prod.snd b) + (1 : Int))), AV.i IntKind.i64 (IntKind.wrap IntKind.i64 (Prod.fst (Prod.snd b) + (1 : Int))), .bad, .bad, .bad, .bad, .bad, .bad, .bad, .bad, .bad, .bad, .bad, .bad, .bad, .bad, .bad, .bad, .bad, .bad, .bad, .bad, .bad, .bad, .bad, .bad, .bad, .bad], h := [Blk.cells ((Prod.snd (Prod.snd b)).2 ++ [AV.s (ByteArray.extract s (Int.toNat (Prod.fst b)) (Int.toNat (Prod.fst (Prod.snd b))))]) true] } ∧ ∃ (m : Nat), Holds (m < n) ∧ I m (Sum.inr (IntKind.wrap IntKind.i64 (Prod.fst (Prod.snd b) + (1 : Int)), IntKind.wrap IntKind.i64 (Prod.fst (Prod.snd b) + (1 : Int)), Prod.fst (Prod.snd (Prod.snd b)) + (1 : Nat), (Prod.snd (Prod.snd b)).2 ++ [AV.s (ByteArray.extract s (Int.toNat (Prod.fst b)) (Int.toNat (Prod.fst (Prod.snd b))))]))) (Wk (0 : Nat) { t := [AV.s s, AV.i IntKind.u8 c, .bad, .bad, .bad, AV.sl (0 : Nat) (0 : Nat) (Prod.fst (Prod.snd (Prod.snd b))) (1 : Nat) none, AV.i IntKind.i64 (Prod.fst b), AV.i IntKind.i64 (IntKind.wrap IntKind.i64 (Prod.fst (Prod.snd b) + (1 : Int))), .bad, .bad, .bad, .bad, .bad, .bad, .bad, .bad, .bad, .bad, .bad, .bad, .bad, .bad, .bad, .bad, .bad, .bad, .bad, .bad, .bad, .bad, .bad, .bad, .bad, .bad], h := [Blk.cells (Prod.snd (Prod.snd (Prod.snd b))) true] } { t := [AV.s s, AV.i IntKind.u8 c, .bad, .bad, .bad, AV.sl (0 : Nat) (0 : Nat) (Prod.snd (Prod.snd b)).1 (1 : Nat) none, AV.i IntKind.i64 b.1, AV.i IntKind.i64 (IntKind.wrap IntKind.i64 (Prod.fst (Prod.snd b) + (1 : Int))), .bad, .bad, .bad, .bad, .bad, .bad, .bad, .bad, .bad, .bad, .bad, .bad, .bad, .bad, .bad, .bad, .bad, .bad, .bad, .bad, .bad, .bad, .bad, .bad, .bad, .bad], h := [Blk.cells (Prod.snd (Prod.snd b)).2 true] } ∧ ∃ (m : Nat), Holds (m < n) ∧ I m (Sum.inr (Prod.fst b, IntKind.wrap IntKind.i64 (Prod.fst (Prod.snd b) + (1 : Int)), Prod.fst (Prod.snd (Prod.snd b)), Prod.snd (Prod.snd (Prod.snd b)))))) (Holds ((0 : Int) ≤ Prod.fst b ∧ Prod.fst b ≤ (↑(ByteArray.size s) : Int)) ∧ Holds ((1 : Nat) ≤ List.length [AV.s (ByteArray.extract s (Int.toNat (Prod.fst b)) (ByteArray.size s))]) ∧ Holds ((Prod.fst (Prod.snd (Prod.snd b)) + (1 : Nat)) * (16 : Nat) ≤ (140737488355328 : Nat)) ∧ Holds (List.all [AV.s (ByteArray.extract s (Int.toNat (Prod.fst b)) (ByteArray.size s))] AV.one = true) ∧ Holds ((0 : Nat) + Prod.fst (Prod.snd (Prod.snd b)) * (1 : Nat) = List.length (Prod.snd (Prod.snd b)).2) ∧ R (AV.sl (2 : Nat) (0 : Nat) (Prod.fst (Prod.snd (Prod.snd b)) + (1 : Nat)) (1 : Nat) none) [Blk.dead, Blk.cells [AV.s (ByteArray.extract s (Int.toNat (Prod.fst b)) (ByteArray.size s))] true, Blk.cells ((Prod.snd (Prod.snd b)).2 ++ [AV.s (ByteArray.extract s (Int.toNat (Prod.fst b)) (ByteArray.size s))]) true])) := by kernel_rfl
def glue (p : List UInt8) : List (List UInt8) → List (List UInt8)
  | h :: t => (p ++ h) :: t
  | [] => [p]
def ofL (l : List UInt8) : ByteArray := ⟨l.toArray⟩
theorem ofL_list (s : ByteArray) : ofL s.data.toList = s := ByteArray.ext (Array.toList_inj.1 (by rw [ofL, List.toList_toArray]))
/-- A text's parts, as texts. -/
def partsB (s : ByteArray) (c : UInt8) : List ByteArray := (splitU c s.data.toList).map ofL
theorem glue_nil {L : List (List UInt8)} (h : L ≠ []) : glue [] L = L := by
  cases L with
  | nil => exact absurd rfl h
  | cons a b => rfl
theorem glue_hit (p : List UInt8) (c : UInt8) (l : List UInt8) : glue p (splitU c (c :: l)) = p :: splitU c l := by
  rw [splitU_hit, glue, List.append_nil]
theorem glue_miss (p : List UInt8) {c x : UInt8} (h : x ≠ c) (l : List UInt8) : glue p (splitU c (x :: l)) = glue (p ++ [x]) (splitU c l) := by
  rw [splitU_miss h]
  cases e : splitU c l with
  | nil => exact absurd e (splitU_ne c l)
  | cons a b => simp [glue]
theorem seg_succ {L : List UInt8} {a k : Nat} (ha : a ≤ k) (hk : k < L.length) : (L.take (k + 1)).drop a = (L.take k).drop a ++ [L[k]] := by
  rw [List.take_add_one, List.getElem?_eq_getElem hk, Option.toList_some, List.drop_append_of_le_length (by rw [List.length_take]; omega)]
theorem flat_s : ∀ (l : List ByteArray), AV.unders 0 (l.map AV.s) = true
  | [] => rfl
  | x :: l => by
    show (AV.under 0 (.s x) && AV.unders 0 (l.map AV.s)) = true
    rw [flat_s l]; rfl
set_option maxRecDepth 100000 in
theorem run51 {s : ByteArray} {cc : UInt8} (hs : s.size ≤ 4096) (R : AV → Hp → Prop) (hR : ∀ v h1, Wk 0 ⟨[v], h1⟩ ⟨[.sl 0 0 (partsB s cc).length 1 none], [.cells ((partsB s cc).map AV.s) true]⟩ → R v h1) : wpFn P tnil noW (head51 s cc.toNat) 0 Go.Proofs.Tryd.f51 [.s s, .i .u8 cc.toNat] [] R := by
  rw [vc51]
  have hL := size_list s
  have byte {i : Nat} (h : i < s.size) : s[i]? = some (s.data.toList[i]'(by omega)) := by
    rw [bget, List.getElem?_eq_getElem (by omega)]
  have fin (acc : List ByteArray) (a : Nat) (h : splitU cc s.data.toList = acc.map (·.data.toList) ++ [(s.data.toList.take s.size).drop a]) : partsB s cc = acc ++ [s.extract a s.size] := by
    unfold partsB
    rw [h, List.map_append, List.map_map, ← extract_list]
    simp only [List.map_cons, List.map_nil, ofL_list]
    congr 1
    conv => rhs; rw [← List.map_id acc]
    exact List.map_congr_left fun x _ => ofL_list x
  refine ⟨Wk.refl _ _, fun m q => ∃ (k a : Nat) (acc : List ByteArray), k + m = s.size ∧ a ≤ k ∧ acc.length ≤ k ∧ splitU cc s.data.toList = acc.map (·.data.toList) ++ glue ((s.data.toList.take k).drop a) (splitU cc (s.data.toList.drop k)) ∧ (match q with
    | .inl q => acc = [] ∧ q.1 = (a : Int) ∧ q.2 = (k : Int)
    | .inr q => q.1 = (a : Int) ∧ q.2.1 = (k : Int) ∧ q.2.2.1 = acc.length ∧ q.2.2.2 = acc.map AV.s), s.size, ⟨0, 0, [], by omega, Nat.le_refl _, Nat.le_refl _, ?_, rfl, rfl, rfl⟩, ?_, ?_⟩
  · show _ = [] ++ glue [] (splitU cc s.data.toList)
    rw [glue_nil (splitU_ne _ _)]; rfl
  · rintro ⟨a', i⟩ m ⟨k, a, acc, hm, ha, hlen, hsp, hq⟩
    simp only at hq
    obtain ⟨rfl, rfl, rfl⟩ := hq
    refine br_intro (fun hi => ?_) (fun hi => ?_)
    · simp only [decide_eq_true_eq] at hi
      have hk : k < s.data.toList.length := by omega
      have w1 : IntKind.wrap .i64 ((k : Int) + 1) = ((k + 1 : Nat) : Int) := by rw [i64w (by omega) (by omega)]; omega
      simp only [Int.toNat_natCast, w1]
      rw [List.drop_eq_getElem_cons hk] at hsp
      refine ⟨⟨Int.natCast_nonneg _⟩, _, ⟨byte (by omega)⟩, br_intro (fun g => ?_) (fun g => ⟨Wk.refl _ _, m - 1, ⟨by omega⟩, k + 1, a, [], by omega, by omega, by simp, ?_, rfl, rfl, rfl⟩)⟩
      · have e : s.data.toList[k] = cc := UInt8.toNat_inj.1 (by rw [beq_iff_eq] at g; omega)
        rw [e, glue_hit] at hsp
        refine ⟨⟨by omega, by omega⟩, ⟨by omega, by omega⟩, ⟨Nat.le_refl 1⟩, ⟨by decide⟩, Wk.rows [1] (by decide) rfl rfl (gcR_one rfl rfl) (by kernel_rfl), m - 1, ⟨by omega⟩, k + 1, k + 1, [s.extract a k], by omega, Nat.le_refl _, by simp, ?_, rfl, rfl, rfl, rfl⟩
        rw [hsp]
        simp only [List.map_nil, List.nil_append, List.map_cons, List.singleton_append, extract_list]
        rw [List.drop_take_self, glue_nil (splitU_ne _ _)]
      · have e : s.data.toList[k] ≠ cc := fun t => by rw [t, beq_self_eq_true] at g; cases g
        rw [glue_miss _ e] at hsp
        rw [hsp, seg_succ ha hk]
    · simp only [decide_eq_false_iff_not] at hi
      have hkz : k = s.size := by omega
      subst hkz
      have hd : s.data.toList.drop s.size = [] := List.drop_eq_nil_of_le (by omega)
      rw [hd] at hsp
      have hp := fin [] a (by rw [hsp]; simp [splitU, glue])
      refine ⟨⟨by omega, by omega⟩, ⟨Nat.le_refl 1⟩, ⟨by decide⟩, hR _ _ ?_⟩
      rw [hp]
      simp only [Int.toNat_natCast]
      exact Wk.rows [1] (by decide) rfl rfl (gcR_one rfl rfl) (by kernel_rfl)
  · rintro ⟨a', i, n, cs⟩ m ⟨k, a, acc, hm, ha, hlen, hsp, hq⟩
    simp only at hq
    obtain ⟨rfl, rfl, rfl, rfl⟩ := hq
    refine br_intro (fun hi => ?_) (fun hi => ?_)
    · simp only [decide_eq_true_eq] at hi
      have hk : k < s.data.toList.length := by omega
      have w1 : IntKind.wrap .i64 ((k : Int) + 1) = ((k + 1 : Nat) : Int) := by rw [i64w (by omega) (by omega)]; omega
      simp only [Int.toNat_natCast, w1]
      rw [List.drop_eq_getElem_cons hk] at hsp
      refine ⟨⟨Int.natCast_nonneg _⟩, _, ⟨byte (by omega)⟩, br_intro (fun g => ?_) (fun g => ⟨Wk.refl _ _, m - 1, ⟨by omega⟩, k + 1, a, acc, by omega, by omega, by omega, ?_, rfl, rfl, rfl, rfl⟩)⟩
      · have e : s.data.toList[k] = cc := UInt8.toNat_inj.1 (by rw [beq_iff_eq] at g; omega)
        rw [e, glue_hit] at hsp
        have hc : acc.map AV.s ++ [AV.s (s.extract a k)] = (acc ++ [s.extract a k]).map AV.s := by simp
        rw [hc]
        refine ⟨⟨by omega, by omega⟩, ⟨by omega, by omega⟩, ⟨Nat.le_refl 1⟩, ⟨by omega⟩, ⟨rfl⟩, ⟨by rw [List.length_map]; omega⟩, Wk.rows [2] (by decide) rfl rfl (gcR_one rfl (flat_s _)) (by kernel_rfl), m - 1, ⟨by omega⟩, k + 1, k + 1, acc ++ [s.extract a k], by omega, Nat.le_refl _, by simp; omega, ?_, rfl, rfl, by simp, rfl⟩
        rw [hsp, List.map_append]
        simp only [List.map_cons, List.map_nil, extract_list, List.append_assoc, List.singleton_append]
        rw [List.drop_take_self, glue_nil (splitU_ne _ _)]
      · have e : s.data.toList[k] ≠ cc := fun t => by rw [t, beq_self_eq_true] at g; cases g
        rw [glue_miss _ e] at hsp
        rw [hsp, seg_succ ha hk]
    · simp only [decide_eq_false_iff_not] at hi
      have hkz : k = s.size := by omega
      subst hkz
      have hd : s.data.toList.drop s.size = [] := List.drop_eq_nil_of_le (by omega)
      rw [hd] at hsp
      have hp := fin acc a (by rw [hsp]; simp [splitU, glue])
      simp only [Int.toNat_natCast]
      refine ⟨⟨by omega, by omega⟩, ⟨Nat.le_refl 1⟩, ⟨by omega⟩, ⟨rfl⟩, ⟨by rw [List.length_map]; omega⟩, hR _ _ ?_⟩
      have hc : acc.map AV.s ++ [AV.s (s.extract a s.size)] = (partsB s cc).map AV.s := by rw [hp]; simp
      have hn : acc.length + 1 = (partsB s cc).length := by rw [hp]; simp
      rw [hc, hn]
      exact Wk.rows [2] (by decide) rfl rfl (gcR_one rfl (flat_s _)) (by kernel_rfl)
end Go.Proofs.YtohaalilplngnaaDoor.ClassRun
/- Four numbers between points. -/
set_option linter.unusedVariables false
set_option linter.unusedSimpArgs false
open Go Go.Proofs.YtohaalilplngnaaDoor.Eng Go.RowKit
namespace Go.Proofs.YtohaalilplngnaaDoor.ClassRun
/-- A text's parts as a new row; a decimal number's word read. -/
def tparts (Sp : ByteArray → ByteArray → List ByteArray) (args : List AV) (h : Hp) (K : AV → Hp → Prop) : Prop := match args with
  | [.s s, .s sep] => Holds (s.size ≤ 4096 ∧ 1 ≤ sep.size) ∧ lenK h fun k => ∀ L : List ByteArray, Holds (Sp s sep = L) → K (.sl k 0 L.length 1 (some L.length)) (h ++ [.cells (L.map AV.s) true])
  | _ => False
def tpartsR (Sp : ByteArray → Int → List ByteArray) (args : List AV) (h : Hp) (K : AV → Hp → Prop) : Prop := match args with
  | [.s s, .i .u8 c] => Holds (s.size ≤ 4096 ∧ 0 ≤ c ∧ c ≤ 255) ∧ lenK h fun k => ∀ L : List ByteArray, Holds (Sp s c = L) → K (.sl k 0 L.length 1 none) (h ++ [.cells (L.map AV.s) true])
  | _ => False
def tdec (D : ByteArray → Int → Int × Bool) (args : List AV) (h : Hp) (K : AV → Hp → Prop) : Prop := match args with
  | [.s s, .i .i64 most] => ∀ (v : Int) (ok : Bool), Holds (D s most = (v, ok)) → K (.tu [.i .i64 v, .bo ok]) h
  | _ => False
def tnum (D : ByteArray → Int → Int) (args : List AV) (h : Hp) (K : AV → Hp → Prop) : Prop := match args with
  | [.s s, .i .i64 most] => ∀ v : Int, Holds (D s most = v) → K (.i .i64 v) h
  | _ => False
/-- Bytes that lie in a row. -/
def Get.bytesB (d k : Nat) : Get (List Int) := ⟨fun s K => match s.t.getD d und with
  | .p id _ => match s.h.getD id .dead with
    | .cells c _ => ∃ l : List Int, Holds (c = l.map (AV.i .u8) ∧ l.length = k) ∧ K l
    | _ => False
  | _ => False, fun s K h => by
    split at h
    · split at h
      · obtain ⟨l, _, h⟩ := h
        exact ⟨l, h⟩
      · exact h.elim
    · exact h.elim⟩
def head13 : Nat → Option Head := fun r => match r with
  | 1013 => some (Head.one (Get.bytesB 4 4) fun l => ⟨[.bad, .bad, .p 0 0, .bad, .p 1 0] ++ bads 32, [.cells [.i .u8 0, .i .u8 0, .i .u8 0, .i .u8 0] true, .cells [.i .u8 (l.getD 0 0), .i .u8 (l.getD 1 0), .i .u8 (l.getD 2 0), .i .u8 (l.getD 3 0)] true]⟩)
  | 6 => some (Head.one (Get.and (Get.rowAt 1) (Get.and (Get.sl 16) (Get.int 18))) fun q => ⟨[.bad, .bad, .p 0 0, .bad, .p 1 0] ++ bads 11 ++ [.sl 2 0 q.2.1.1 1 (some q.2.1.1), .i .i64 (q.2.1.1 : Nat), .i .i64 q.2.2] ++ bads 18, [.cells [.i .u8 0, .i .u8 0, .i .u8 0, .i .u8 0] true, .cells q.1 true, .cells q.2.1.2 true]⟩)
  | _ => none
def head27 : Nat → Option Head := fun r => match r with
  | 1012 => some (Head.one (Get.bytesB 4 4) fun l => ⟨[.bad, .bad, .p 0 0, .bad, .p 1 0] ++ bads 26, [.cells [.i .u8 0, .i .u8 0, .i .u8 0, .i .u8 0] true, .cells [.i .u8 (l.getD 0 0), .i .u8 (l.getD 1 0), .i .u8 (l.getD 2 0), .i .u8 (l.getD 3 0)] true]⟩)
  | 6 => some (Head.one (Get.and (Get.rowAt 1) (Get.and (Get.sl 5) (Get.int 6))) fun q => ⟨[.bad, .bad, .p 0 0, .bad, .p 1 0, .sl 2 0 q.2.1.1 1 none, .i .i64 q.2.2] ++ bads 24, [.cells [.i .u8 0, .i .u8 0, .i .u8 0, .i .u8 0] true, .cells q.1 true, .cells q.2.1.2 true]⟩)
  | _ => none
set_option maxRecDepth 100000 in
theorem vc13 (Sp : ByteArray → ByteArray → List ByteArray) (D : ByteArray → Int → Int × Bool) (s : ByteArray) (R : AV → Hp → Prop) : (wpFn P (tcons 39 (tparts Sp) (tcons 40 (tdec D) tnil)) noW head13 0 Go.Proofs.Tryd.f13 [.s s] [] R) = (Holds (ByteArray.size s ≤ (4096 : Nat) ∧ (1 : Nat) ≤ ByteArray.size { data := #[(46 : UInt8)] }) ∧ ∀ (L : List ByteArray), Holds (Sp s { data := #[(46 : UInt8)] } = L) → br ((↑(List.length L) : Int) != (4 : Int)) (Holds ((4 : Nat) ≤ List.length [AV.i IntKind.u8 (0 : Int), AV.i IntKind.u8 (0 : Int), AV.i IntKind.u8 (0 : Int), AV.i IntKind.u8 (0 : Int)]) ∧ R (AV.tu [AV.ag [AV.i IntKind.u8 (0 : Int), AV.i IntKind.u8 (0 : Int), AV.i IntKind.u8 (0 : Int), AV.i IntKind.u8 (0 : Int)], AV.bo false]) [Blk.cells [AV.i IntKind.u8 (0 : Int), AV.i IntKind.u8 (0 : Int), AV.i IntKind.u8 (0 : Int), AV.i IntKind.u8 (0 : Int)] true, Blk.cells [AV.i IntKind.u8 (0 : Int), AV.i IntKind.u8 (0 : Int), AV.i IntKind.u8 (0 : Int), AV.i IntKind.u8 (0 : Int)] true, Blk.cells (List.map AV.s L) true]) (∃ (J : List Int → Prop), (Wk (0 : Nat) { t := [.bad, .bad, AV.p (0 : Nat) (0 : Nat), .bad, AV.p (1 : Nat) (0 : Nat), .bad, .bad, .bad, .bad, .bad, .bad, .bad, .bad, .bad, .bad, .bad, AV.sl (2 : Nat) (0 : Nat) (List.length L) (1 : Nat) (some (List.length L)), AV.i IntKind.i64 (↑(List.length L) : Int), AV.i IntKind.i64 (0 : Int), .bad, .bad, .bad, .bad, .bad, .bad, .bad, .bad, .bad, .bad, .bad, .bad, .bad, .bad, .bad, .bad, .bad, .bad], h := [Blk.cells [AV.i IntKind.u8 (0 : Int), AV.i IntKind.u8 (0 : Int), AV.i IntKind.u8 (0 : Int), AV.i IntKind.u8 (0 : Int)] true, Blk.cells [AV.i IntKind.u8 (0 : Int), AV.i IntKind.u8 (0 : Int), AV.i IntKind.u8 (0 : Int), AV.i IntKind.u8 (0 : Int)] true, Blk.cells (List.map AV.s L) true] } { t := [.bad, .bad, AV.p (0 : Nat) (0 : Nat), .bad, AV.p (1 : Nat) (0 : Nat), .bad, .bad, .bad, .bad, .bad, .bad, .bad, .bad, .bad, .bad, .bad, AV.sl (2 : Nat) (0 : Nat) (List.length L) (1 : Nat) (some (List.length L)), AV.i IntKind.i64 (↑(Prod.fst (Prod.fst (Prod.snd ([flatV (Value.int IntKind.u8 (0 : Int)), flatV (Value.int IntKind.u8 (0 : Int)), flatV (Value.int IntKind.u8 (0 : Int)), flatV (Value.int IntKind.u8 (0 : Int))], (List.length L, List.map AV.s L), (0 : Int))))) : Int), AV.i IntKind.i64 (0 : Int), .bad, .bad, .bad, .bad, .bad, .bad, .bad, .bad, .bad, .bad, .bad, .bad, .bad, .bad, .bad, .bad, .bad, .bad], h := [Blk.cells [AV.i IntKind.u8 (0 : Int), AV.i IntKind.u8 (0 : Int), AV.i IntKind.u8 (0 : Int), AV.i IntKind.u8 (0 : Int)] true, Blk.cells [AV.i IntKind.u8 (0 : Int), AV.i IntKind.u8 (0 : Int), AV.i IntKind.u8 (0 : Int), AV.i IntKind.u8 (0 : Int)] true, Blk.cells (List.map AV.s L) true] } ∧ ∃ (I : Nat → List AV × (Nat × List AV) × Int → Prop), ∃ (n : Nat), I n ([AV.i IntKind.u8 (0 : Int), AV.i IntKind.u8 (0 : Int), AV.i IntKind.u8 (0 : Int), AV.i IntKind.u8 (0 : Int)], (List.length L, List.map AV.s L), (0 : Int)) ∧ ∀ (a : List AV × (Nat × List AV) × Int) (n : Nat), I n a → br (decide (Prod.snd (Prod.snd a) < (↑(Prod.fst (Prod.fst (Prod.snd a))) : Int))) (Holds ((0 : Int) ≤ Prod.snd (Prod.snd a) ∧ Prod.snd (Prod.snd a) < (↑(Prod.fst (Prod.fst (Prod.snd a))) : Int)) ∧ ∃ (s : ByteArray), Holds ((Prod.fst (Prod.snd a)).2[(0 : Nat) + Int.toNat (Prod.snd (Prod.snd a)) * (1 : Nat)]? = some (AV.s s)) ∧ ∀ (v : Int) (ok : Bool), Holds (D s (255 : Int) = (v, ok)) → br (!ok) (Holds ((4 : Nat) ≤ List.length [AV.i IntKind.u8 (0 : Int), AV.i IntKind.u8 (0 : Int), AV.i IntKind.u8 (0 : Int), AV.i IntKind.u8 (0 : Int)]) ∧ R (AV.tu [AV.ag [AV.i IntKind.u8 (0 : Int), AV.i IntKind.u8 (0 : Int), AV.i IntKind.u8 (0 : Int), AV.i IntKind.u8 (0 : Int)], AV.bo false]) [Blk.cells [AV.i IntKind.u8 (0 : Int), AV.i IntKind.u8 (0 : Int), AV.i IntKind.u8 (0 : Int), AV.i IntKind.u8 (0 : Int)] true, Blk.cells (Prod.fst a) true, Blk.cells (Prod.snd (Prod.fst (Prod.snd a))) true]) (Holds ((0 : Int) ≤ Prod.snd (Prod.snd a) ∧ Prod.snd (Prod.snd a) < (↑(4 : Nat) : Int)) ∧ Holds ((0 : Nat) + Int.toNat (Prod.snd (Prod.snd a)) * (1 : Nat) + (1 : Nat) ≤ List.length a.1) ∧ Wk (0 : Nat) { t := [.bad, .bad, AV.p (0 : Nat) (0 : Nat), .bad, AV.p (1 : Nat) (0 : Nat), .bad, .bad, .bad, .bad, .bad, .bad, .bad, .bad, .bad, .bad, .bad, AV.sl (2 : Nat) (0 : Nat) (Prod.fst (Prod.fst (Prod.snd a))) (1 : Nat) (some (Prod.fst (Prod.fst (Prod.snd a)))), AV.i IntKind.i64 (↑(Prod.fst (Prod.fst (Prod.snd a))) : Int), AV.i IntKind.i64 (IntKind.wrap IntKind.i64 (Prod.snd (Prod.snd a) + (1 : Int))), .bad, .bad, .bad, .bad, .bad, .bad, .bad, .bad, .bad, .bad, .bad, .bad, .bad, .bad, .bad, .bad, .bad, .bad], h := [Blk.cells [AV.i IntKind.u8 (0 : Int), AV.i IntKind.u8 (0 : Int), AV.i IntKind.u8 (0 : Int), AV.i IntKind.u8 (0 : Int)] true, Blk.cells (setAll a.1 ((0 : Nat) + Int.toNat (Prod.snd (Prod.snd a)) * (1 : Nat)) [AV.i IntKind.u8 (IntKind.wrap IntKind.u8 v)]) true, Blk.cells (Prod.snd (Prod.fst (Prod.snd a))) true] } { t := [.bad, .bad, AV.p (0 : Nat) (0 : Nat), .bad, AV.p (1 : Nat) (0 : Nat), .bad, .bad, .bad, .bad, .bad, .bad, .bad, .bad, .bad, .bad, .bad, AV.sl (2 : Nat) (0 : Nat) (Prod.fst (Prod.snd a)).1 (1 : Nat) (some (Prod.fst (Prod.snd a)).1), AV.i IntKind.i64 (↑(Prod.fst (Prod.fst (Prod.snd (setAll (Prod.fst (Prod.fst a, true)) ((0 : Nat) + Int.toNat (Prod.snd (Prod.snd a)) * (fun (x : TypeInfo) => TypeInfo.size x) (Tables.types (Program.toTables P))[(5 : Nat)]) (AV.cells (ev (St.t { t := [.bad, .bad, AV.p (0 : Nat) (0 : Nat), .bad, AV.p (1 : Nat) (0 : Nat), .bad, AV.i IntKind.i64 (Prod.snd (Prod.snd a)), AV.s s, AV.i IntKind.i64 v, AV.bo ok, .bad, .bad, .bad, .bad, .bad, .bad, AV.sl (2 : Nat) (0 : Nat) (Prod.fst (Prod.fst (Prod.snd a))) (1 : Nat) (some (Prod.fst (Prod.fst (Prod.snd a)))), AV.i IntKind.i64 (↑(Prod.fst (Prod.fst (Prod.snd a))) : Int), AV.i IntKind.i64 (Prod.snd (Prod.snd a)), AV.bo (decide (Prod.snd (Prod.snd a) < (↑(Prod.fst (Prod.fst (Prod.snd a))) : Int))), AV.i IntKind.i64 (Prod.snd (Prod.snd a)), AV.p (2 : Nat) ((0 : Nat) + Int.toNat (Prod.snd (Prod.snd a)) * (1 : Nat)), AV.s s, AV.tu [AV.i IntKind.i64 v, AV.bo ok], AV.s s, AV.tu [AV.i IntKind.i64 v, AV.bo ok], AV.i IntKind.i64 v, AV.bo ok, AV.bo ok, AV.bo !ok, .bad, AV.i IntKind.i64 (Prod.snd (Prod.snd a)), AV.i IntKind.i64 v, AV.i IntKind.u8 (IntKind.wrap IntKind.u8 v), AV.p (1 : Nat) ((0 : Nat) + Int.toNat (Prod.snd (Prod.snd a)) * (fun (x : TypeInfo) => TypeInfo.size x) (Tables.types (Program.toTables P))[(5 : Nat)]), .bad, .bad], h := [Blk.cells [AV.i IntKind.u8 (0 : Int), AV.i IntKind.u8 (0 : Int), AV.i IntKind.u8 (0 : Int), AV.i IntKind.u8 (0 : Int)] true, Blk.cells (Prod.fst a) true, Blk.cells (Prod.snd (Prod.fst (Prod.snd a))) true] }) (Operand.tmp (33 : Nat)))), (Prod.fst (Prod.fst (Prod.snd a)), Prod.snd (Prod.fst (Prod.snd a))), IntKind.wrap IntKind.i64 (Prod.snd (Prod.snd a) + (1 : Int)))))) : Int), AV.i IntKind.i64 (IntKind.wrap IntKind.i64 (Prod.snd (Prod.snd a) + (1 : Int))), .bad, .bad, .bad, .bad, .bad, .bad, .bad, .bad, .bad, .bad, .bad, .bad, .bad, .bad, .bad, .bad, .bad, .bad], h := [Blk.cells [AV.i IntKind.u8 (0 : Int), AV.i IntKind.u8 (0 : Int), AV.i IntKind.u8 (0 : Int), AV.i IntKind.u8 (0 : Int)] true, Blk.cells (setAll a.1 ((0 : Nat) + Int.toNat (Prod.snd (Prod.snd a)) * (1 : Nat)) [AV.i IntKind.u8 (IntKind.wrap IntKind.u8 v)]) true, Blk.cells (Prod.fst (Prod.snd a)).2 true] } ∧ ∃ (m : Nat), Holds (m < n) ∧ I m (setAll a.1 ((0 : Nat) + Int.toNat (Prod.snd (Prod.snd a)) * (1 : Nat)) [AV.i IntKind.u8 (IntKind.wrap IntKind.u8 v)], (Prod.fst (Prod.fst (Prod.snd a)), Prod.snd (Prod.fst (Prod.snd a))), IntKind.wrap IntKind.i64 (Prod.snd (Prod.snd a) + (1 : Int))))) (∃ (l : List Int), Holds (Prod.fst a = List.map (AV.i IntKind.u8) l ∧ List.length l = (4 : Nat)) ∧ Wk (0 : Nat) { t := [.bad, .bad, AV.p (0 : Nat) (0 : Nat), .bad, AV.p (1 : Nat) (0 : Nat), .bad, .bad, .bad, .bad, .bad, .bad, .bad, .bad, .bad, .bad, .bad, .bad, .bad, .bad, .bad, .bad, .bad, .bad, .bad, .bad, .bad, .bad, .bad, .bad, .bad, .bad, .bad, .bad, .bad, .bad, .bad, .bad], h := [Blk.cells [AV.i IntKind.u8 (0 : Int), AV.i IntKind.u8 (0 : Int), AV.i IntKind.u8 (0 : Int), AV.i IntKind.u8 (0 : Int)] true, Blk.cells (Prod.fst a) true, Blk.cells (Prod.snd (Prod.fst (Prod.snd a))) true] } { t := [.bad, .bad, AV.p (0 : Nat) (0 : Nat), .bad, AV.p (1 : Nat) (0 : Nat), .bad, .bad, .bad, .bad, .bad, .bad, .bad, .bad, .bad, .bad, .bad, .bad, .bad, .bad, .bad, .bad, .bad, .bad, .bad, .bad, .bad, .bad, .bad, .bad, .bad, .bad, .bad, .bad, .bad, .bad, .bad, .bad], h := [Blk.cells [AV.i IntKind.u8 (0 : Int), AV.i IntKind.u8 (0 : Int), AV.i IntKind.u8 (0 : Int), AV.i IntKind.u8 (0 : Int)] true, Blk.cells [AV.i IntKind.u8 (List.getD l (0 : Nat) (0 : Int)), AV.i IntKind.u8 (List.getD l (1 : Nat) (0 : Int)), AV.i IntKind.u8 (List.getD l (2 : Nat) (0 : Int)), AV.i IntKind.u8 (List.getD l (3 : Nat) (0 : Int))] true] } ∧ J l)) ∧ ∀ (a : List Int), J a → Holds ((4 : Nat) ≤ List.length [AV.i IntKind.u8 (0 : Int), AV.i IntKind.u8 (0 : Int), AV.i IntKind.u8 (0 : Int), AV.i IntKind.u8 (0 : Int)]) ∧ R (AV.tu [AV.ag [AV.i IntKind.u8 (List.getD a (0 : Nat) (0 : Int)), AV.i IntKind.u8 (List.getD a (1 : Nat) (0 : Int)), AV.i IntKind.u8 (List.getD a (2 : Nat) (0 : Int)), AV.i IntKind.u8 (List.getD a (3 : Nat) (0 : Int))], AV.bo true]) [Blk.cells [AV.i IntKind.u8 (List.getD a (0 : Nat) (0 : Int)), AV.i IntKind.u8 (List.getD a (1 : Nat) (0 : Int)), AV.i IntKind.u8 (List.getD a (2 : Nat) (0 : Int)), AV.i IntKind.u8 (List.getD a (3 : Nat) (0 : Int))] true, Blk.cells [AV.i IntKind.u8 (List.getD a (0 : Nat) (0 : Int)), AV.i IntKind.u8 (List.getD a (1 : Nat) (0 : Int)), AV.i IntKind.u8 (List.getD a (2 : Nat) (0 : Int)), AV.i IntKind.u8 (List.getD a (3 : Nat) (0 : Int))] true])) := by kernel_rfl
theorem vc27 (Sp : ByteArray → Int → List ByteArray) (D : ByteArray → Int → Int) (s : ByteArray) (R : AV → Hp → Prop) : (wpFn P (tcons 51 (tpartsR Sp) (tcons 52 (tnum D) tnil)) noW head27 0 Go.Proofs.Tryd.f27 [.s s] [] R) = (Holds (ByteArray.size s ≤ (4096 : Nat) ∧ (0 : Int) ≤ (46 : Int) ∧ (46 : Int) ≤ (255 : Int)) ∧ ∀ (L : List ByteArray), Holds (Sp s (46 : Int) = L) → br ((↑(List.length L) : Int) != (4 : Int)) (Holds ((4 : Nat) ≤ List.length [AV.i IntKind.u8 (0 : Int), AV.i IntKind.u8 (0 : Int), AV.i IntKind.u8 (0 : Int), AV.i IntKind.u8 (0 : Int)]) ∧ R (AV.tu [AV.ag [AV.i IntKind.u8 (0 : Int), AV.i IntKind.u8 (0 : Int), AV.i IntKind.u8 (0 : Int), AV.i IntKind.u8 (0 : Int)], AV.bo false]) [Blk.cells [AV.i IntKind.u8 (0 : Int), AV.i IntKind.u8 (0 : Int), AV.i IntKind.u8 (0 : Int), AV.i IntKind.u8 (0 : Int)] true, Blk.cells [AV.i IntKind.u8 (0 : Int), AV.i IntKind.u8 (0 : Int), AV.i IntKind.u8 (0 : Int), AV.i IntKind.u8 (0 : Int)] true, Blk.cells (List.map AV.s L) true]) (∃ (J : List Int → Prop), (Wk (0 : Nat) { t := [.bad, .bad, AV.p (0 : Nat) (0 : Nat), .bad, AV.p (1 : Nat) (0 : Nat), AV.sl (2 : Nat) (0 : Nat) (List.length L) (1 : Nat) none, AV.i IntKind.i64 (0 : Int), .bad, .bad, .bad, .bad, .bad, .bad, .bad, .bad, .bad, .bad, .bad, .bad, .bad, .bad, .bad, .bad, .bad, .bad, .bad, .bad, .bad, .bad, .bad, .bad], h := [Blk.cells [AV.i IntKind.u8 (0 : Int), AV.i IntKind.u8 (0 : Int), AV.i IntKind.u8 (0 : Int), AV.i IntKind.u8 (0 : Int)] true, Blk.cells [AV.i IntKind.u8 (0 : Int), AV.i IntKind.u8 (0 : Int), AV.i IntKind.u8 (0 : Int), AV.i IntKind.u8 (0 : Int)] true, Blk.cells (List.map AV.s L) true] } { t := [.bad, .bad, AV.p (0 : Nat) (0 : Nat), .bad, AV.p (1 : Nat) (0 : Nat), AV.sl (2 : Nat) (0 : Nat) (List.length L) (1 : Nat) none, AV.i IntKind.i64 (0 : Int), .bad, .bad, .bad, .bad, .bad, .bad, .bad, .bad, .bad, .bad, .bad, .bad, .bad, .bad, .bad, .bad, .bad, .bad, .bad, .bad, .bad, .bad, .bad, .bad], h := [Blk.cells [AV.i IntKind.u8 (0 : Int), AV.i IntKind.u8 (0 : Int), AV.i IntKind.u8 (0 : Int), AV.i IntKind.u8 (0 : Int)] true, Blk.cells [AV.i IntKind.u8 (0 : Int), AV.i IntKind.u8 (0 : Int), AV.i IntKind.u8 (0 : Int), AV.i IntKind.u8 (0 : Int)] true, Blk.cells (List.map AV.s L) true] } ∧ ∃ (I : Nat → List AV × (Nat × List AV) × Int → Prop), ∃ (n : Nat), I n ([AV.i IntKind.u8 (0 : Int), AV.i IntKind.u8 (0 : Int), AV.i IntKind.u8 (0 : Int), AV.i IntKind.u8 (0 : Int)], (List.length L, List.map AV.s L), (0 : Int)) ∧ ∀ (a : List AV × (Nat × List AV) × Int) (n : Nat), I n a → br (decide (Prod.snd (Prod.snd a) < (4 : Int))) (Holds ((0 : Int) ≤ Prod.snd (Prod.snd a) ∧ Prod.snd (Prod.snd a) < (↑(Prod.fst (Prod.fst (Prod.snd a))) : Int)) ∧ ∃ (s : ByteArray), Holds ((Prod.fst (Prod.snd a)).2[(0 : Nat) + Int.toNat (Prod.snd (Prod.snd a)) * (1 : Nat)]? = some (AV.s s)) ∧ ∀ (v : Int), Holds (D s (255 : Int) = v) → br (decide (v < (0 : Int))) (Holds ((4 : Nat) ≤ List.length [AV.i IntKind.u8 (0 : Int), AV.i IntKind.u8 (0 : Int), AV.i IntKind.u8 (0 : Int), AV.i IntKind.u8 (0 : Int)]) ∧ R (AV.tu [AV.ag [AV.i IntKind.u8 (0 : Int), AV.i IntKind.u8 (0 : Int), AV.i IntKind.u8 (0 : Int), AV.i IntKind.u8 (0 : Int)], AV.bo false]) [Blk.cells [AV.i IntKind.u8 (0 : Int), AV.i IntKind.u8 (0 : Int), AV.i IntKind.u8 (0 : Int), AV.i IntKind.u8 (0 : Int)] true, Blk.cells (Prod.fst a) true, Blk.cells (Prod.snd (Prod.fst (Prod.snd a))) true]) (Holds ((0 : Int) ≤ Prod.snd (Prod.snd a) ∧ Prod.snd (Prod.snd a) < (↑(4 : Nat) : Int)) ∧ Holds ((0 : Nat) + Int.toNat (Prod.snd (Prod.snd a)) * (1 : Nat) + (1 : Nat) ≤ List.length a.1) ∧ Wk (0 : Nat) { t := [.bad, .bad, AV.p (0 : Nat) (0 : Nat), .bad, AV.p (1 : Nat) (0 : Nat), AV.sl (2 : Nat) (0 : Nat) (Prod.fst (Prod.fst (Prod.snd a))) (1 : Nat) none, AV.i IntKind.i64 (IntKind.wrap IntKind.i64 (Prod.snd (Prod.snd a) + (1 : Int))), .bad, .bad, .bad, .bad, .bad, .bad, .bad, .bad, .bad, .bad, .bad, .bad, .bad, .bad, .bad, .bad, .bad, .bad, .bad, .bad, .bad, .bad, .bad, .bad], h := [Blk.cells [AV.i IntKind.u8 (0 : Int), AV.i IntKind.u8 (0 : Int), AV.i IntKind.u8 (0 : Int), AV.i IntKind.u8 (0 : Int)] true, Blk.cells (setAll a.1 ((0 : Nat) + Int.toNat (Prod.snd (Prod.snd a)) * (1 : Nat)) [AV.i IntKind.u8 (IntKind.wrap IntKind.u8 v)]) true, Blk.cells (Prod.snd (Prod.fst (Prod.snd a))) true] } { t := [.bad, .bad, AV.p (0 : Nat) (0 : Nat), .bad, AV.p (1 : Nat) (0 : Nat), AV.sl (2 : Nat) (0 : Nat) (Prod.fst (Prod.snd a)).1 (1 : Nat) none, AV.i IntKind.i64 (IntKind.wrap IntKind.i64 (Prod.snd (Prod.snd a) + (1 : Int))), .bad, .bad, .bad, .bad, .bad, .bad, .bad, .bad, .bad, .bad, .bad, .bad, .bad, .bad, .bad, .bad, .bad, .bad, .bad, .bad, .bad, .bad, .bad, .bad], h := [Blk.cells [AV.i IntKind.u8 (0 : Int), AV.i IntKind.u8 (0 : Int), AV.i IntKind.u8 (0 : Int), AV.i IntKind.u8 (0 : Int)] true, Blk.cells (setAll a.1 ((0 : Nat) + Int.toNat (Prod.snd (Prod.snd a)) * (1 : Nat)) [AV.i IntKind.u8 (IntKind.wrap IntKind.u8 v)]) true, Blk.cells (Prod.fst (Prod.snd a)).2 true] } ∧ ∃ (m : Nat), Holds (m < n) ∧ I m (setAll a.1 ((0 : Nat) + Int.toNat (Prod.snd (Prod.snd a)) * (1 : Nat)) [AV.i IntKind.u8 (IntKind.wrap IntKind.u8 v)], (Prod.fst (Prod.fst (Prod.snd a)), Prod.snd (Prod.fst (Prod.snd a))), IntKind.wrap IntKind.i64 (Prod.snd (Prod.snd a) + (1 : Int))))) (∃ (l : List Int), Holds (Prod.fst a = List.map (AV.i IntKind.u8) l ∧ List.length l = (4 : Nat)) ∧ Wk (0 : Nat) { t := [.bad, .bad, AV.p (0 : Nat) (0 : Nat), .bad, AV.p (1 : Nat) (0 : Nat), .bad, .bad, .bad, .bad, .bad, .bad, .bad, .bad, .bad, .bad, .bad, .bad, .bad, .bad, .bad, .bad, .bad, .bad, .bad, .bad, .bad, .bad, .bad, .bad, .bad, .bad], h := [Blk.cells [AV.i IntKind.u8 (0 : Int), AV.i IntKind.u8 (0 : Int), AV.i IntKind.u8 (0 : Int), AV.i IntKind.u8 (0 : Int)] true, Blk.cells (Prod.fst a) true, Blk.cells (Prod.snd (Prod.fst (Prod.snd a))) true] } { t := [.bad, .bad, AV.p (0 : Nat) (0 : Nat), .bad, AV.p (1 : Nat) (0 : Nat), .bad, .bad, .bad, .bad, .bad, .bad, .bad, .bad, .bad, .bad, .bad, .bad, .bad, .bad, .bad, .bad, .bad, .bad, .bad, .bad, .bad, .bad, .bad, .bad, .bad, .bad], h := [Blk.cells [AV.i IntKind.u8 (0 : Int), AV.i IntKind.u8 (0 : Int), AV.i IntKind.u8 (0 : Int), AV.i IntKind.u8 (0 : Int)] true, Blk.cells [AV.i IntKind.u8 (List.getD l (0 : Nat) (0 : Int)), AV.i IntKind.u8 (List.getD l (1 : Nat) (0 : Int)), AV.i IntKind.u8 (List.getD l (2 : Nat) (0 : Int)), AV.i IntKind.u8 (List.getD l (3 : Nat) (0 : Int))] true] } ∧ J l)) ∧ ∀ (a : List Int), J a → Holds ((4 : Nat) ≤ List.length [AV.i IntKind.u8 (0 : Int), AV.i IntKind.u8 (0 : Int), AV.i IntKind.u8 (0 : Int), AV.i IntKind.u8 (0 : Int)]) ∧ R (AV.tu [AV.ag [AV.i IntKind.u8 (List.getD a (0 : Nat) (0 : Int)), AV.i IntKind.u8 (List.getD a (1 : Nat) (0 : Int)), AV.i IntKind.u8 (List.getD a (2 : Nat) (0 : Int)), AV.i IntKind.u8 (List.getD a (3 : Nat) (0 : Int))], AV.bo true]) [Blk.cells [AV.i IntKind.u8 (List.getD a (0 : Nat) (0 : Int)), AV.i IntKind.u8 (List.getD a (1 : Nat) (0 : Int)), AV.i IntKind.u8 (List.getD a (2 : Nat) (0 : Int)), AV.i IntKind.u8 (List.getD a (3 : Nat) (0 : Int))] true, Blk.cells [AV.i IntKind.u8 (List.getD a (0 : Nat) (0 : Int)), AV.i IntKind.u8 (List.getD a (1 : Nat) (0 : Int)), AV.i IntKind.u8 (List.getD a (2 : Nat) (0 : Int)), AV.i IntKind.u8 (List.getD a (3 : Nat) (0 : Int))] true])) := by kernel_rfl
def wordAt (L : List ByteArray) (j : Nat) : ByteArray := L.getD j ⟨#[]⟩
def valAt (L : List ByteArray) (j : Nat) : Int := (decS (wordAt L j) 255).1
/-- The bytes that are read so far. -/
def curL (L : List ByteArray) (k : Nat) : List Int := (List.range 4).map fun j => if j < k then valAt L j else 0
def parse4S (L : List ByteArray) : Option (List Int) := if L.length = 4 ∧ ((List.range 4).all fun j => (decS (wordAt L j) 255).2) = true then some (curL L 4) else none
def p4Ans : Option (List Int) → AV
  | some l => .tu [.ag (l.map (AV.i .u8)), .bo true]
  | none => .tu [.ag [.i .u8 0, .i .u8 0, .i .u8 0, .i .u8 0], .bo false]
theorem decS_range {s : ByteArray} {most v : Int} (h : decS s most = (v, true)) : 0 ≤ v ∧ v ≤ most := by
  unfold decS at h
  rw [Prod.mk.injEq, Bool.and_eq_true] at h
  obtain ⟨n, hn, _, _, _, hm⟩ := digS_true (v := v) (s := s) (most := most) (by rw [← h.1, ← h.2.1])
  exact ⟨by omega, hm⟩
theorem curL_len (L : List ByteArray) (k : Nat) : (curL L k).length = 4 := by simp [curL]
theorem curL_step {L : List ByteArray} {k : Nat} (hk : k < 4) : setAll ((curL L k).map (AV.i .u8)) (0 + k * 1) [.i .u8 (valAt L k)] = (curL L (k + 1)).map (AV.i .u8) := by
  show ((curL L k).map (AV.i .u8)).set (0 + k * 1) _ = _
  rw [Nat.zero_add, Nat.mul_one, ← List.map_set]
  congr 1
  apply List.ext_getElem?
  intro j
  by_cases e : k = j
  · subst e
    rw [List.getElem?_set_self (by rw [curL_len]; exact hk)]
    simp [curL, hk]
  · rw [List.getElem?_set_ne e]
    by_cases hj : j < 4
    · simp only [curL, List.getElem?_map, List.getElem?_range hj, Option.map_some]
      have : (j < k) ↔ (j < k + 1) := by omega
      simp only [this]
    · rw [List.getElem?_eq_none (by rw [curL_len]; omega), List.getElem?_eq_none (by rw [curL_len]; omega)]
theorem word_get {L : List ByteArray} {k : Nat} (hk : k < L.length) : (L.map AV.s)[0 + k * 1]? = some (.s (wordAt L k)) := by
  rw [Nat.zero_add, Nat.mul_one, List.getElem?_map, wordAt, List.getD_eq_getElem?_getD, List.getElem?_eq_getElem hk]; rfl
theorem parse4_bad {L : List ByteArray} {k : Nat} (hk : k < 4) (h : (decS (wordAt L k) 255).2 = false) : p4Ans (parse4S L) = p4Ans none := by
  unfold parse4S
  rw [if_neg]
  rintro ⟨_, t⟩
  have := List.all_eq_true.1 t k (List.mem_range.2 hk)
  rw [this] at h; cases h
theorem curL_zero (L : List ByteArray) : (curL L 0).map (AV.i .u8) = [.i .u8 0, .i .u8 0, .i .u8 0, .i .u8 0] := rfl
theorem cellsP4 {l : List Int} (h : l.length = 4) : l.map (AV.i .u8) = [.i .u8 (l.getD 0 0), .i .u8 (l.getD 1 0), .i .u8 (l.getD 2 0), .i .u8 (l.getD 3 0)] := by
  match l, h with
  | [a, b, c, d], _ => rfl
set_option maxRecDepth 100000 in
theorem run27 {s : ByteArray} (hs : s.size ≤ 4096) (Sp : ByteArray → Int → List ByteArray) (hz : (Sp s 46).length ≤ 4097) : Holds (wpFn P (tcons 51 (tpartsR Sp) (tcons 52 (tnum numS) tnil)) noW head27 0 Go.Proofs.Tryd.f27 [.s s] [] fun v _ => v = p4Ans (parse4S (Sp s 46))) := by
  refine ⟨?_⟩
  rw [vc27]
  refine ⟨⟨hs, by decide, by decide⟩, ?_⟩
  rintro L ⟨hL⟩
  rw [hL] at hz ⊢
  refine br_intro (fun h4 => ⟨⟨by decide⟩, ?_⟩) (fun h4 => ?_)
  · simp only [bne_iff_ne, ne_eq] at h4
    unfold parse4S
    rw [if_neg (fun t => h4 (by rw [t.1]; rfl))]
    rfl
  have h4 : L.length = 4 := by simp only [bne_eq_false_iff_eq] at h4; omega
  refine ⟨fun l => l = curL L 4 ∧ (∀ j, j < 4 → (decS (wordAt L j) 255).2 = true), ⟨Wk.refl _ _, fun m q => ∃ k : Nat, q.2.2 = (k : Int) ∧ q.2.1 = (L.length, L.map AV.s) ∧ k + m = 4 ∧ q.1 = (curL L k).map (AV.i .u8) ∧ ∀ j, j < k → (decS (wordAt L j) 255).2 = true, 4, ⟨0, rfl, rfl, rfl, rfl, fun j h => absurd h (Nat.not_lt_zero j)⟩, ?_⟩, ?_⟩
  · rintro ⟨cs, q, i⟩ m ⟨k, e1, e2, hm, e3, hall⟩
    simp only at e1 e2 e3
    subst e1 e2 e3
    refine br_intro (fun hi => ?_) (fun hi => ?_)
    · simp only [decide_eq_true_eq] at hi
      have hk : k < 4 := by omega
      simp only [Int.toNat_natCast]
      refine ⟨⟨Int.natCast_nonneg _, by omega⟩, _, ⟨word_get (by omega)⟩, ?_⟩
      rintro v ⟨hv⟩
      cases hd : decS (wordAt L k) 255 with
      | mk x ok =>
        unfold numS at hv
        rw [hd] at hv
        cases ok with
        | false =>
          rw [if_neg (by simp)] at hv
          subst hv
          refine br_intro (fun _ => ⟨⟨by decide⟩, ?_⟩) (fun h => absurd h (by decide))
          rw [parse4_bad hk (by rw [hd])]; rfl
        | true =>
          rw [if_pos rfl] at hv
          simp only at hv
          subst hv
          have hr := decS_range hd
          refine br_intro (fun h => absurd (of_decide_eq_true h) (by omega)) (fun _ => ?_)
          have wv : IntKind.wrap .u8 x = valAt L k := by rw [wrap8, valAt, hd]; simp only; omega
          rw [wv, curL_step hk]
          refine ⟨⟨Int.natCast_nonneg _, by omega⟩, ⟨by rw [List.length_map, curL_len]; omega⟩, Wk.refl _ _, m - 1, ⟨by omega⟩, k + 1, i64w (x := (k : Int) + 1) (by omega) (by omega), by trivial, by omega, rfl, fun j hj => ?_⟩
          rcases Nat.lt_or_ge j k with g | g
          · exact hall j g
          · obtain rfl : j = k := by omega
            rw [hd]
    · simp only [decide_eq_false_iff_not] at hi
      obtain rfl : k = 4 := by omega
      refine ⟨curL L 4, ⟨rfl, curL_len _ _⟩, ?_, rfl, hall⟩
      rw [cellsP4 (curL_len L 4)]
      exact Wk.rows [0, 1] (by decide) rfl rfl (gcR_two rfl rfl rfl rfl) (by kernel_rfl)
  · rintro _ ⟨rfl, hall⟩
    refine ⟨⟨by decide⟩, ?_⟩
    unfold parse4S
    rw [if_pos ⟨h4, List.all_eq_true.2 fun j hj => hall j (List.mem_range.1 hj)⟩, p4Ans, cellsP4 (curL_len L 4)]
set_option maxRecDepth 100000 in
theorem run13 {s : ByteArray} (hs : s.size ≤ 4096) (Sp : ByteArray → ByteArray → List ByteArray) (hz : (Sp s ⟨#[46]⟩).length ≤ 4097) : Holds (wpFn P (tcons 39 (tparts Sp) (tcons 40 (tdec decS) tnil)) noW head13 0 Go.Proofs.Tryd.f13 [.s s] [] fun v _ => v = p4Ans (parse4S (Sp s ⟨#[46]⟩))) := by
  refine ⟨?_⟩
  rw [vc13]
  refine ⟨⟨hs, Nat.le_refl 1⟩, ?_⟩
  rintro L ⟨hL⟩
  rw [hL] at hz ⊢
  refine br_intro (fun h4 => ⟨⟨by decide⟩, ?_⟩) (fun h4 => ?_)
  · simp only [bne_iff_ne, ne_eq] at h4
    unfold parse4S
    rw [if_neg (fun t => h4 (by rw [t.1]; rfl))]
    rfl
  have h4 : L.length = 4 := by simp only [bne_eq_false_iff_eq] at h4; omega
  refine ⟨fun l => l = curL L 4 ∧ (∀ j, j < 4 → (decS (wordAt L j) 255).2 = true), ⟨Wk.refl _ _, fun m q => ∃ k : Nat, q.2.2 = (k : Int) ∧ q.2.1 = (L.length, L.map AV.s) ∧ k + m = 4 ∧ q.1 = (curL L k).map (AV.i .u8) ∧ ∀ j, j < k → (decS (wordAt L j) 255).2 = true, 4, ⟨0, rfl, rfl, rfl, rfl, fun j h => absurd h (Nat.not_lt_zero j)⟩, ?_⟩, ?_⟩
  · rintro ⟨cs, q, i⟩ m ⟨k, e1, e2, hm, e3, hall⟩
    simp only at e1 e2 e3
    subst e1 e2 e3
    refine br_intro (fun hi => ?_) (fun hi => ?_)
    · simp only [decide_eq_true_eq] at hi
      have hk : k < 4 := by omega
      simp only [Int.toNat_natCast]
      refine ⟨⟨Int.natCast_nonneg _, by omega⟩, _, ⟨word_get (by omega)⟩, ?_⟩
      rintro x ok ⟨hd⟩
      cases ok with
        | false =>
          refine br_intro (fun _ => ⟨⟨by decide⟩, ?_⟩) (fun h => absurd h (by decide))
          rw [parse4_bad hk (by rw [hd])]; rfl
        | true =>
          have hr := decS_range hd
          refine br_intro (fun h => absurd h (by decide)) (fun _ => ?_)
          have wv : IntKind.wrap .u8 x = valAt L k := by rw [wrap8, valAt, hd]; simp only; omega
          rw [wv, curL_step hk]
          refine ⟨⟨Int.natCast_nonneg _, by omega⟩, ⟨by rw [List.length_map, curL_len]; omega⟩, Wk.refl _ _, m - 1, ⟨by omega⟩, k + 1, i64w (x := (k : Int) + 1) (by omega) (by omega), by trivial, by omega, rfl, fun j hj => ?_⟩
          rcases Nat.lt_or_ge j k with g | g
          · exact hall j g
          · obtain rfl : j = k := by omega
            rw [hd]
    · simp only [decide_eq_false_iff_not] at hi
      obtain rfl : k = 4 := by omega
      refine ⟨curL L 4, ⟨rfl, curL_len _ _⟩, ?_, rfl, hall⟩
      rw [cellsP4 (curL_len L 4)]
      exact Wk.rows [0, 1] (by decide) rfl rfl (gcR_two rfl rfl rfl rfl) (by kernel_rfl)
  · rintro _ ⟨rfl, hall⟩
    refine ⟨⟨by decide⟩, ?_⟩
    unfold parse4S
    rw [if_pos ⟨h4, List.all_eq_true.2 fun j hj => hall j (List.mem_range.1 hj)⟩, p4Ans, cellsP4 (curL_len L 4)]
end Go.Proofs.YtohaalilplngnaaDoor.ClassRun
/- Contracts of words of numbers, parts, and addresses of four numbers. -/
set_option linter.unusedVariables false
set_option linter.unusedSimpArgs false
open Go Go.Proofs.YtohaalilplngnaaDoor.Eng Go.RowKit
namespace Go.Proofs.YtohaalilplngnaaDoor.ClassRun
theorem splitU_len (c : UInt8) : ∀ (l : List UInt8), (splitU c l).length ≤ l.length + 1
  | [] => Nat.le_refl _
  | x :: l => by
    have ih := splitU_len c l
    by_cases h : x = c
    · subst h
      rw [splitU_hit]; simp only [List.length_cons]; omega
    · rw [splitU_miss h]
      split
      · rename_i a b e; rw [e] at ih; simp only [List.length_cons] at *; omega
      · simp
theorem partsB_len (s : ByteArray) (c : UInt8) : (partsB s c).length ≤ s.size + 1 := by
  rw [partsB, List.length_map, ← size_list]; exact splitU_len c _
theorem splitB_parts (s : ByteArray) (c : UInt8) : Lib.splitB (sepB c) 0 (Lib.countB s (sepB c)) s = partsB s c := by
  unfold partsB
  rw [← splitB_U c _ s rfl, List.map_map]
  conv => lhs; rw [← List.map_id (Lib.splitB (sepB c) 0 (Lib.countB s (sepB c)) s)]
  exact List.map_congr_left fun x _ => (ofL_list x).symm
def splitP (s sep : ByteArray) : List ByteArray := Lib.splitB sep 0 (Lib.countB s sep) s
theorem tparts_f : FollowsF (tparts splitP) Csplit := by
  intro args h K hk
  unfold tparts at hk
  split at hk
  · rename_i s sep
    obtain ⟨⟨h1, h2⟩, hk⟩ := hk
    rw [lenK_eq] at hk
    have hl := Lib.splitB_all sep h2 0 _ s rfl
    have hl' : (splitP s sep).length = Lib.countB s sep + 1 := hl
    have := hk (splitP s sep) ⟨rfl⟩
    rw [hl'] at this
    exact ⟨_, _, by unfold Csplit; simp only; rw [if_pos ⟨by omega, h2⟩, if_pos hl]; rfl, this⟩
  · exact hk.elim
def mk58 (q : ByteArray × Int × Int × Int) : List AV := [.s q.1, .i .i64 q.2.1, .i .i64 q.2.2.1, .i .i64 q.2.2.2]
def ok58 (q : ByteArray × Int × Int × Int) : Prop := (q.2.1 = 10 ∧ q.2.2.1 = 3) ∨ (q.2.1 = 16 ∧ q.2.2.1 = 4)
theorem mk58_inj (x y : ByteArray × Int × Int × Int) (h : mk58 x = mk58 y) : x = y := by
  obtain ⟨a, b, c, d⟩ := x; obtain ⟨a', b', c', d'⟩ := y
  simp only [mk58, List.cons.injEq, AV.s.injEq, AV.i.injEq, true_and, and_true] at h
  obtain ⟨rfl, rfl, rfl, rfl⟩ := h; rfl
abbrev C58 := Splain mk58 ok58 fun q => digAns (digF q.2.1 q.2.2.1 q.1 q.2.2.2)
theorem fn58 : fnOk1 P noW 58 Go.Proofs.Tryd.f58 := ⟨Go.Proofs.Tryd.func58, by kernel_rfl, by kernel_rfl, by kernel_rfl⟩
theorem fn40 : fnOk1 P noW 40 Go.Proofs.Tryd.f40 := ⟨Go.Proofs.Tryd.func40, by kernel_rfl, by kernel_rfl, by kernel_rfl⟩
theorem fn52 : fnOk1 P noW 52 Go.Proofs.Tryd.f52 := ⟨Go.Proofs.Tryd.func52, by kernel_rfl, by kernel_rfl, by kernel_rfl⟩
theorem fn53 : fnOk1 P noW 53 Go.Proofs.Tryd.f53 := ⟨Go.Proofs.Tryd.func53, by kernel_rfl, by kernel_rfl, by kernel_rfl⟩
set_option maxRecDepth 100000 in
theorem digits_s : SoundF P 58 (Cof C58) := by
  refine SoundF.plain (follows_nil _) (noEnv_sound _) mo fn58 (fun _ => rfl) (fun _ => rfl) fun q hq => ?_
  obtain ⟨s, b, m, most⟩ := q
  rcases hq with ⟨rfl, rfl⟩ | ⟨rfl, rfl⟩
  · exact ⟨head58 s 10 3 most, 0, (run58d s most).out⟩
  · exact ⟨head58 s 16 4 most, 0, (run58h s most).out⟩
theorem tdig_f : FollowsF (tdig digF) (Cof C58) := by
  refine follows_of (Splain.det mk58_inj) fun args h K hk => ?_
  unfold tdig at hk
  split at hk
  · rename_i s b m most
    exact ⟨_, _, ⟨rfl, (s, b, m, most), rfl, hk.1.out, rfl⟩, hk.2 _ _ ⟨rfl⟩⟩
  · exact hk.elim
theorem titoa_f : FollowsF (titoa itoaB) Citoa := by
  intro args h K hk
  unfold titoa at hk
  split at hk
  · rename_i n
    obtain ⟨⟨h1⟩, hk⟩ := hk
    exact ⟨_, _, by unfold Citoa; simp only; rw [if_pos h1]; rfl, hk _ ⟨rfl⟩⟩
  · exact hk.elim
def mkSM (q : ByteArray × Int) : List AV := [.s q.1, .i .i64 q.2]
theorem mkSM_inj (x y : ByteArray × Int) (h : mkSM x = mkSM y) : x = y := by
  obtain ⟨a, b⟩ := x; obtain ⟨c, d⟩ := y
  simp only [mkSM, List.cons.injEq, AV.s.injEq, AV.i.injEq, true_and, and_true] at h
  rw [h.1, h.2]
def mkS1 (s : ByteArray) : List AV := [.s s]
theorem mkS1_inj (x y : ByteArray) (h : mkS1 x = mkS1 y) : x = y := by
  simp only [mkS1, List.cons.injEq, AV.s.injEq, and_true] at h
  exact h
abbrev C40 := Splain mkSM (fun _ => True) fun q => digAns (decS q.1 q.2)
abbrev C52 := Splain mkSM (fun _ => True) fun q => .i .i64 (numS q.1 q.2)
abbrev C53 := Splain mkS1 (fun _ => True) fun s => .i .i64 (hexS s)
set_option maxRecDepth 100000 in
theorem decimal_s : SoundF P 40 (Cof C40) := SoundF.plainH (follows_cons tdig_f (follows_cons titoa_f (follows_nil _))) (with1_sound fn58.ok digits_s (with1_sound (fnOkB_ok (by kernel_rfl)) itoa_s (noEnv_sound _))) mo fn40 (fun _ => rfl) (fun _ => rfl) noL fun q _ => run40 q.1 q.2
set_option maxRecDepth 100000 in
theorem number_s : SoundF P 52 (Cof C52) := SoundF.plain (follows_nil _) (noEnv_sound _) mo fn52 (fun _ => rfl) (fun _ => rfl) fun q _ => ⟨head52 q.1 q.2, 0, (run52 q.1 q.2).out⟩
set_option maxRecDepth 100000 in
theorem hex_s : SoundF P 53 (Cof C53) := SoundF.plain (follows_nil _) (noEnv_sound _) mo fn53 (fun _ => rfl) (fun _ => rfl) fun s _ => ⟨head53 s, 0, (run53 s).out⟩
theorem tdec_f : FollowsF (tdec decS) (Cof C40) := by
  refine follows_of (Splain.det mkSM_inj) fun args h K hk => ?_
  unfold tdec at hk
  split at hk
  · rename_i s most
    exact ⟨_, _, ⟨rfl, (s, most), rfl, trivial, rfl⟩, hk _ _ ⟨rfl⟩⟩
  · exact hk.elim
theorem tnum_f : FollowsF (tnum numS) (Cof C52) := by
  refine follows_of (Splain.det mkSM_inj) fun args h K hk => ?_
  unfold tnum at hk
  split at hk
  · rename_i s most
    exact ⟨_, _, ⟨rfl, (s, most), rfl, trivial, rfl⟩, hk _ ⟨rfl⟩⟩
  · exact hk.elim
/-! the document's split; addresses of four numbers -/
def mk51 (q : ByteArray × UInt8) : List AV := [.s q.1, .i .u8 q.2.toNat]
theorem mk51_inj (x y : ByteArray × UInt8) (h : mk51 x = mk51 y) : x = y := by
  obtain ⟨a, b⟩ := x; obtain ⟨c, d⟩ := y
  simp only [mk51, List.cons.injEq, AV.s.injEq, AV.i.injEq, true_and, and_true] at h
  have e : b = d := UInt8.toNat_inj.1 (by omega)
  rw [h.1, e]
abbrev C51 := Smake mk51 (fun q => q.1.size ≤ 4096) AV.s fun q => partsB q.1 q.2
theorem partsB_ne (s : ByteArray) (c : UInt8) : partsB s c ≠ [] := fun h => splitU_ne c _ (List.map_eq_nil_iff.1 h)
theorem fn51 : fnOk1 P noW 51 Go.Proofs.Tryd.f51 := ⟨Go.Proofs.Tryd.func51, by kernel_rfl, by kernel_rfl, by kernel_rfl⟩
set_option maxRecDepth 100000 in
theorem split51_s : SoundF P 51 (Cof C51) := SoundF.make (follows_nil _) (noEnv_sound _) mo fn51 (fun _ => rfl) (fun _ => rfl) fun q hq R h0 h1 => ⟨head51 q.1 q.2.toNat, run51 hq R fun v h2 hw => h1 (partsB_ne _ _) v h2 hw⟩
def partsI (s : ByteArray) (c : Int) : List ByteArray := partsB s (UInt8.ofNat c.toNat)
theorem tpartsR_f : FollowsF (tpartsR partsI) (Cof C51) := by
  refine follows_of (Smake.det mk51_inj) fun args h K hk => ?_
  unfold tpartsR at hk
  split at hk
  · rename_i s c
    obtain ⟨⟨h1, h2, h3⟩, hk⟩ := hk
    rw [lenK_eq] at hk
    have ec : ((UInt8.ofNat c.toNat).toNat : Int) = c := by rw [UInt8.toNat_ofNat']; omega
    exact ⟨_, _, ⟨(s, UInt8.ofNat c.toNat), by rw [mk51, ec], h1, .inr ⟨partsB_ne _ _, rfl, rfl⟩⟩, hk _ ⟨rfl⟩⟩
  · exact hk.elim
theorem fn13 : fnOk1 P noW 13 Go.Proofs.Tryd.f13 := ⟨Go.Proofs.Tryd.func13, by kernel_rfl, by kernel_rfl, by kernel_rfl⟩
theorem fn27 : fnOk1 P noW 27 Go.Proofs.Tryd.f27 := ⟨Go.Proofs.Tryd.func27, by kernel_rfl, by kernel_rfl, by kernel_rfl⟩
abbrev CP4 := Splain mkS1 (fun s => s.size ≤ 4096) fun s => p4Ans (parse4S (partsB s 46))
theorem p4_flat (o : Option (List Int)) : (p4Ans o).under 0 = true := by
  cases o with
  | none => rfl
  | some l =>
    show (AV.unders 0 (l.map (AV.i .u8)) && true) = true
    rw [Bool.and_true]
    exact unders_map 0 _ (fun _ => rfl) _
set_option maxRecDepth 100000 in
theorem parse4_s : SoundF P 13 (Cof CP4) := by
  refine SoundF.plainH (follows_cons tparts_f (follows_cons tdec_f (follows_nil _))) (with1_sound (fnOkB_ok (by kernel_rfl)) split_s (with1_sound fn40.ok decimal_s (noEnv_sound _))) mo fn13 (fun _ => rfl) (fun _ => p4_flat _) head13 fun s hs => ?_
  have e : splitP s ⟨#[46]⟩ = partsB s 46 := splitB_parts s 46
  have := run13 hs splitP (by rw [e]; have := partsB_len s 46; omega)
  rw [e] at this
  exact this
set_option maxRecDepth 100000 in
theorem parse4R_s : SoundF P 27 (Cof CP4) := by
  refine SoundF.plainH (follows_cons tpartsR_f (follows_cons tnum_f (follows_nil _))) (with1_sound fn51.ok split51_s (with1_sound fn52.ok number_s (noEnv_sound _))) mo fn27 (fun _ => rfl) (fun _ => p4_flat _) head27 fun s hs => ?_
  have e : partsI s 46 = partsB s 46 := rfl
  have := run27 hs partsI (by rw [e]; have := partsB_len s 46; omega)
  rw [e] at this
  exact this
end Go.Proofs.YtohaalilplngnaaDoor.ClassRun
