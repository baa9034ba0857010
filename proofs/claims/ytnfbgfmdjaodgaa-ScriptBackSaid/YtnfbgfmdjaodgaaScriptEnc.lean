/- Lists of events are written, by the program and by the reference; too great ones. -/
import Derived.Test.YtnfbgfmdjaodgaaScriptDec
set_option linter.unusedVariables false
set_option linter.unusedSimpArgs false
open Go Go.Proofs.Ytnfbgfmdjaodgaa.Eng Go.RowKit
namespace Go.Proofs.Ytnfbgfmdjaodgaa.ScriptRun
def head14 (a : AV) (n : Nat) (h : Hp) : Nat → Option Head := fun r => match r with
  | 4 => some (Head.two (nilAt 4) (Get.and (Get.boo 5) (Get.int 15)) (fun q => ⟨bads 4 ++ [.sn, .bo q.1] ++ bads 7 ++ [a, .i .i64 n, .i .i64 q.2] ++ bads 27, h⟩)
      (Get.and (Get.boo 5) (Get.and (Get.int 15) (Get.sl 4))) (fun q => ⟨bads 4 ++ [.sl h.length 0 q.2.2.1 1 none, .bo q.1] ++ bads 7 ++ [a, .i .i64 n, .i .i64 q.2.1] ++ bads 27, h ++ [.cells q.2.2.2 true]⟩))
  | _ => none
def head15 (a : AV) (h : Hp) : Nat → Option Head := fun r => match r with
  | 3 => some (Head.one (Get.and (Get.int 3) (Get.int 4)) fun q => ⟨[a, .bad, .bad, .i .i64 q.1, .i .i64 q.2] ++ bads 26, h⟩)
  | _ => none
def head16 (a : AV) (h : Hp) : Nat → Option Head := fun r => match r with
  | 3 => some (Head.one (Get.and (Get.int 4) (Get.int 5)) fun q => ⟨[a, .bad, .bad, .bad, .i .i64 q.1, .i .i64 q.2] ++ bads 28, h⟩)
  | _ => none
set_option maxRecDepth 1000000 in
theorem vc14n (bv : Ev → ByteArray) (ov : Ev → Bool) (ok : Ev → Prop) (R : AV → Hp → Prop) : (wpFn P (tcons 21 (t0 unEv ok fun x K => K (.tu [.s (bv x), .bo (ov x)]) []) tnil) noW (head14 .sn 0 []) 0 Go.Proofs.Try.f14 [.sn] [] R) = (Wk 0 { t := [.bad, .bad, .bad, .bad, AV.sn, AV.bo false, .bad, .bad, .bad, .bad, .bad, .bad, .bad, AV.sn, AV.i .i64 0, AV.i .i64 0, .bad, .bad, .bad, .bad, .bad, .bad, .bad, .bad, .bad, .bad, .bad, .bad, .bad, .bad, .bad, .bad, .bad, .bad, .bad, .bad, .bad, .bad, .bad, .bad, .bad, .bad, .bad], h := [] } { t := [.bad, .bad, .bad, .bad, AV.sn, AV.bo false, .bad, .bad, .bad, .bad, .bad, .bad, .bad, AV.sn, AV.i .i64 0, AV.i .i64 0, .bad, .bad, .bad, .bad, .bad, .bad, .bad, .bad, .bad, .bad, .bad, .bad, .bad, .bad, .bad, .bad, .bad, .bad, .bad, .bad, .bad, .bad, .bad, .bad, .bad, .bad, .bad], h := [] } ∧ ∃ (I : Nat → Bool × Int ⊕ Bool × Int × Nat × List AV → Prop), ∃ (n : Nat), I n (Sum.inl (false, (0 : Int))) ∧ (∀ (a : Bool × Int) (n : Nat), I n (Sum.inl a) → br (decide (Prod.snd a < (↑(0 : Nat) : Int))) False (br (Prod.fst a) (R (AV.tu [AV.sn, AV.i .i64 3]) []) (R (AV.tu [AV.sn, AV.i .i64 0]) []))) ∧ ∀ (b : Bool × Int × Nat × List AV) (n : Nat), I n (Sum.inr b) → br (decide (Prod.fst (Prod.snd b) < (↑(0 : Nat) : Int))) False (br (Prod.fst b) (R (AV.tu [AV.sn, AV.i .i64 3]) [Blk.cells (Prod.snd (Prod.snd (Prod.snd b))) true]) (R (AV.tu [AV.sl 0 0 (Prod.fst (Prod.snd (Prod.snd b))) 1 none, AV.i .i64 0]) [Blk.cells (Prod.snd (Prod.snd (Prod.snd b))) true]))) := by kernel_rfl
set_option maxRecDepth 1000000 in
theorem vc14 (bv : Ev → ByteArray) (ov : Ev → Bool) (ok : Ev → Prop) (off len : Nat) (cap : Option Nat) (c : List AV) (R : AV → Hp → Prop) : (wpFn P (tcons 21 (t0 unEv ok fun x K => K (.tu [.s (bv x), .bo (ov x)]) []) tnil) noW (head14 (.sl 0 off len 3 cap) len [.cells c false]) 1 Go.Proofs.Try.f14 [.sl 0 off len 3 cap] [.cells c false] R) = (Wk 1 { t := [.bad, .bad, .bad, .bad, AV.sn, AV.bo (decide ((↑len : Int) > (4096 : Int))), .bad, .bad, .bad, .bad, .bad, .bad, .bad, AV.sl 0 off len 3 cap, AV.i .i64 (↑len : Int), AV.i .i64 0, .bad, .bad, .bad, .bad, .bad, .bad, .bad, .bad, .bad, .bad, .bad, .bad, .bad, .bad, .bad, .bad, .bad, .bad, .bad, .bad, .bad, .bad, .bad, .bad, .bad, .bad, .bad], h := [Blk.cells c false] } { t := [.bad, .bad, .bad, .bad, AV.sn, AV.bo (decide ((↑len : Int) > (4096 : Int))), .bad, .bad, .bad, .bad, .bad, .bad, .bad, AV.sl 0 off len 3 cap, AV.i .i64 (↑len : Int), AV.i .i64 0, .bad, .bad, .bad, .bad, .bad, .bad, .bad, .bad, .bad, .bad, .bad, .bad, .bad, .bad, .bad, .bad, .bad, .bad, .bad, .bad, .bad, .bad, .bad, .bad, .bad, .bad, .bad], h := [Blk.cells c false] } ∧ ∃ (I : Nat → Bool × Int ⊕ Bool × Int × Nat × List AV → Prop), ∃ (n : Nat), I n (Sum.inl (decide ((↑len : Int) > (4096 : Int)), (0 : Int))) ∧ (∀ (a : Bool × Int) (n : Nat), I n (Sum.inl a) → br (decide (Prod.snd a < (↑len : Int))) (Holds ((0 : Int) ≤ Prod.snd a ∧ Prod.snd a < (↑len : Int)) ∧ ∃ (n_1 : Int), ∃ (n_2 : Int), ∃ (s : ByteArray), Holds (List.take 3 (List.drop (off + Int.toNat (Prod.snd a) * 3) c) = [AV.i .u8 n_1, AV.i .i64 n_2, AV.s s]) ∧ Holds (3 ≤ List.length [AV.i .u8 0, AV.i .i64 0, AV.s (⟨#[]⟩ : ByteArray)]) ∧ ∃ (n_3 : Int), ∃ (n_4 : Int), ∃ (s_1 : ByteArray), Holds ([AV.i .u8 n_1, AV.i .i64 n_2, AV.s s] = [AV.i .u8 n_3, AV.i .i64 n_4, AV.s s_1]) ∧ Holds (ok (n_3, n_4, s_1)) ∧ br (!ov (n_3, n_4, s_1)) (R (AV.tu [AV.sn, AV.i .i64 1]) [Blk.cells c false, Blk.cells [AV.i .u8 n_1, AV.i .i64 n_2, AV.s s] true]) (br (Prod.fst a) (Wk 1 { t := [.bad, .bad, .bad, .bad, AV.sn, AV.bo true, .bad, .bad, .bad, .bad, .bad, .bad, .bad, AV.sl 0 off len 3 cap, AV.i .i64 (↑len : Int), AV.i .i64 (IntKind.wrap .i64 (Prod.snd a + (1 : Int))), .bad, .bad, .bad, .bad, .bad, .bad, .bad, .bad, .bad, .bad, .bad, .bad, .bad, .bad, .bad, .bad, .bad, .bad, .bad, .bad, .bad, .bad, .bad, .bad, .bad, .bad, .bad], h := [Blk.cells c false, Blk.cells [AV.i .u8 n_1, AV.i .i64 n_2, AV.s s] true] } { t := [.bad, .bad, .bad, .bad, AV.sn, AV.bo true, .bad, .bad, .bad, .bad, .bad, .bad, .bad, AV.sl 0 off len 3 cap, AV.i .i64 (↑len : Int), AV.i .i64 (IntKind.wrap .i64 (Prod.snd a + (1 : Int))), .bad, .bad, .bad, .bad, .bad, .bad, .bad, .bad, .bad, .bad, .bad, .bad, .bad, .bad, .bad, .bad, .bad, .bad, .bad, .bad, .bad, .bad, .bad, .bad, .bad, .bad, .bad], h := [Blk.cells c false] } ∧ ∃ (m : Nat), Holds (m < n) ∧ I m (Sum.inl (true, IntKind.wrap .i64 (Prod.snd a + (1 : Int))))) (br (!decide (IntKind.wrap .i64 ((0 : Int) + (↑(ByteArray.size (bv (n_3, n_4, s_1))) : Int)) > (262144 : Int))) (br (ByteArray.size (bv (n_3, n_4, s_1)) == 0) (Wk 1 { t := [.bad, .bad, .bad, .bad, AV.sn, AV.bo (decide (IntKind.wrap .i64 ((0 : Int) + (↑(ByteArray.size (bv (n_3, n_4, s_1))) : Int)) > (262144 : Int))), .bad, .bad, .bad, .bad, .bad, .bad, .bad, AV.sl 0 off len 3 cap, AV.i .i64 (↑len : Int), AV.i .i64 (IntKind.wrap .i64 (Prod.snd a + (1 : Int))), .bad, .bad, .bad, .bad, .bad, .bad, .bad, .bad, .bad, .bad, .bad, .bad, .bad, .bad, .bad, .bad, .bad, .bad, .bad, .bad, .bad, .bad, .bad, .bad, .bad, .bad, .bad], h := [Blk.cells c false, Blk.cells [AV.i .u8 n_1, AV.i .i64 n_2, AV.s s] true] } { t := [.bad, .bad, .bad, .bad, AV.sn, AV.bo (decide (IntKind.wrap .i64 ((0 : Int) + (↑(ByteArray.size (bv (n_3, n_4, s_1))) : Int)) > (262144 : Int))), .bad, .bad, .bad, .bad, .bad, .bad, .bad, AV.sl 0 off len 3 cap, AV.i .i64 (↑len : Int), AV.i .i64 (IntKind.wrap .i64 (Prod.snd a + (1 : Int))), .bad, .bad, .bad, .bad, .bad, .bad, .bad, .bad, .bad, .bad, .bad, .bad, .bad, .bad, .bad, .bad, .bad, .bad, .bad, .bad, .bad, .bad, .bad, .bad, .bad, .bad, .bad], h := [Blk.cells c false] } ∧ ∃ (m : Nat), Holds (m < n) ∧ I m (Sum.inl (decide (IntKind.wrap .i64 ((0 : Int) + (↑(ByteArray.size (bv (n_3, n_4, s_1))) : Int)) > (262144 : Int)), IntKind.wrap .i64 (Prod.snd a + (1 : Int))))) (Holds (ByteArray.size (bv (n_3, n_4, s_1)) * 1 ≤ 140737488355328) ∧ Wk 1 { t := [.bad, .bad, .bad, .bad, AV.sl 2 0 (ByteArray.size (bv (n_3, n_4, s_1))) 1 none, AV.bo (decide (IntKind.wrap .i64 ((0 : Int) + (↑(ByteArray.size (bv (n_3, n_4, s_1))) : Int)) > (262144 : Int))), .bad, .bad, .bad, .bad, .bad, .bad, .bad, AV.sl 0 off len 3 cap, AV.i .i64 (↑len : Int), AV.i .i64 (IntKind.wrap .i64 (Prod.snd a + (1 : Int))), .bad, .bad, .bad, .bad, .bad, .bad, .bad, .bad, .bad, .bad, .bad, .bad, .bad, .bad, .bad, .bad, .bad, .bad, .bad, .bad, .bad, .bad, .bad, .bad, .bad, .bad, .bad], h := [Blk.cells c false, Blk.cells [AV.i .u8 n_1, AV.i .i64 n_2, AV.s s] true, Blk.cells (bytesAV (bv (n_3, n_4, s_1))) true] } { t := [.bad, .bad, .bad, .bad, AV.sl 1 0 (ByteArray.size (bv (n_3, n_4, s_1))) 1 none, AV.bo (decide (IntKind.wrap .i64 ((0 : Int) + (↑(ByteArray.size (bv (n_3, n_4, s_1))) : Int)) > (262144 : Int))), .bad, .bad, .bad, .bad, .bad, .bad, .bad, AV.sl 0 off len 3 cap, AV.i .i64 (↑len : Int), AV.i .i64 (IntKind.wrap .i64 (Prod.snd a + (1 : Int))), .bad, .bad, .bad, .bad, .bad, .bad, .bad, .bad, .bad, .bad, .bad, .bad, .bad, .bad, .bad, .bad, .bad, .bad, .bad, .bad, .bad, .bad, .bad, .bad, .bad, .bad, .bad], h := [Blk.cells c false, Blk.cells (bytesAV (bv (n_3, n_4, s_1))) true] } ∧ ∃ (m : Nat), Holds (m < n) ∧ I m (Sum.inr (decide (IntKind.wrap .i64 ((0 : Int) + (↑(ByteArray.size (bv (n_3, n_4, s_1))) : Int)) > (262144 : Int)), IntKind.wrap .i64 (Prod.snd a + (1 : Int)), ByteArray.size (bv (n_3, n_4, s_1)), bytesAV (bv (n_3, n_4, s_1)))))) (Wk 1 { t := [.bad, .bad, .bad, .bad, AV.sn, AV.bo (decide (IntKind.wrap .i64 ((0 : Int) + (↑(ByteArray.size (bv (n_3, n_4, s_1))) : Int)) > (262144 : Int))), .bad, .bad, .bad, .bad, .bad, .bad, .bad, AV.sl 0 off len 3 cap, AV.i .i64 (↑len : Int), AV.i .i64 (IntKind.wrap .i64 (Prod.snd a + (1 : Int))), .bad, .bad, .bad, .bad, .bad, .bad, .bad, .bad, .bad, .bad, .bad, .bad, .bad, .bad, .bad, .bad, .bad, .bad, .bad, .bad, .bad, .bad, .bad, .bad, .bad, .bad, .bad], h := [Blk.cells c false, Blk.cells [AV.i .u8 n_1, AV.i .i64 n_2, AV.s s] true] } { t := [.bad, .bad, .bad, .bad, AV.sn, AV.bo (decide (IntKind.wrap .i64 ((0 : Int) + (↑(ByteArray.size (bv (n_3, n_4, s_1))) : Int)) > (262144 : Int))), .bad, .bad, .bad, .bad, .bad, .bad, .bad, AV.sl 0 off len 3 cap, AV.i .i64 (↑len : Int), AV.i .i64 (IntKind.wrap .i64 (Prod.snd a + (1 : Int))), .bad, .bad, .bad, .bad, .bad, .bad, .bad, .bad, .bad, .bad, .bad, .bad, .bad, .bad, .bad, .bad, .bad, .bad, .bad, .bad, .bad, .bad, .bad, .bad, .bad, .bad, .bad], h := [Blk.cells c false] } ∧ ∃ (m : Nat), Holds (m < n) ∧ I m (Sum.inl (decide (IntKind.wrap .i64 ((0 : Int) + (↑(ByteArray.size (bv (n_3, n_4, s_1))) : Int)) > (262144 : Int)), IntKind.wrap .i64 (Prod.snd a + (1 : Int)))))))) (br (Prod.fst a) (R (AV.tu [AV.sn, AV.i .i64 3]) [Blk.cells c false]) (R (AV.tu [AV.sn, AV.i .i64 0]) [Blk.cells c false]))) ∧ ∀ (b : Bool × Int × Nat × List AV) (n : Nat), I n (Sum.inr b) → br (decide (Prod.fst (Prod.snd b) < (↑len : Int))) (Holds ((0 : Int) ≤ Prod.fst (Prod.snd b) ∧ Prod.fst (Prod.snd b) < (↑len : Int)) ∧ ∃ (n_1 : Int), ∃ (n_2 : Int), ∃ (s : ByteArray), Holds (List.take 3 (List.drop (off + Int.toNat (Prod.fst (Prod.snd b)) * 3) c) = [AV.i .u8 n_1, AV.i .i64 n_2, AV.s s]) ∧ Holds (3 ≤ List.length [AV.i .u8 0, AV.i .i64 0, AV.s (⟨#[]⟩ : ByteArray)]) ∧ ∃ (n_3 : Int), ∃ (n_4 : Int), ∃ (s_1 : ByteArray), Holds ([AV.i .u8 n_1, AV.i .i64 n_2, AV.s s] = [AV.i .u8 n_3, AV.i .i64 n_4, AV.s s_1]) ∧ Holds (ok (n_3, n_4, s_1)) ∧ br (!ov (n_3, n_4, s_1)) (R (AV.tu [AV.sn, AV.i .i64 1]) [Blk.cells c false, Blk.cells (Prod.snd (Prod.snd (Prod.snd b))) true, Blk.cells [AV.i .u8 n_1, AV.i .i64 n_2, AV.s s] true]) (br (Prod.fst b) (Wk 1 { t := [.bad, .bad, .bad, .bad, AV.sl 1 0 (Prod.fst (Prod.snd (Prod.snd b))) 1 none, AV.bo true, .bad, .bad, .bad, .bad, .bad, .bad, .bad, AV.sl 0 off len 3 cap, AV.i .i64 (↑len : Int), AV.i .i64 (IntKind.wrap .i64 (Prod.fst (Prod.snd b) + (1 : Int))), .bad, .bad, .bad, .bad, .bad, .bad, .bad, .bad, .bad, .bad, .bad, .bad, .bad, .bad, .bad, .bad, .bad, .bad, .bad, .bad, .bad, .bad, .bad, .bad, .bad, .bad, .bad], h := [Blk.cells c false, Blk.cells (Prod.snd (Prod.snd (Prod.snd b))) true, Blk.cells [AV.i .u8 n_1, AV.i .i64 n_2, AV.s s] true] } { t := [.bad, .bad, .bad, .bad, AV.sl 1 0 (Prod.snd (Prod.snd b)).1 1 none, AV.bo true, .bad, .bad, .bad, .bad, .bad, .bad, .bad, AV.sl 0 off len 3 cap, AV.i .i64 (↑len : Int), AV.i .i64 (IntKind.wrap .i64 (Prod.fst (Prod.snd b) + (1 : Int))), .bad, .bad, .bad, .bad, .bad, .bad, .bad, .bad, .bad, .bad, .bad, .bad, .bad, .bad, .bad, .bad, .bad, .bad, .bad, .bad, .bad, .bad, .bad, .bad, .bad, .bad, .bad], h := [Blk.cells c false, Blk.cells (Prod.snd (Prod.snd b)).2 true] } ∧ ∃ (m : Nat), Holds (m < n) ∧ I m (Sum.inr (true, IntKind.wrap .i64 (Prod.fst (Prod.snd b) + (1 : Int)), Prod.fst (Prod.snd (Prod.snd b)), Prod.snd (Prod.snd (Prod.snd b))))) (br (!decide (IntKind.wrap .i64 ((↑(Prod.fst (Prod.snd (Prod.snd b))) : Int) + (↑(ByteArray.size (bv (n_3, n_4, s_1))) : Int)) > (262144 : Int))) (br (ByteArray.size (bv (n_3, n_4, s_1)) == 0) (Wk 1 { t := [.bad, .bad, .bad, .bad, AV.sl 1 0 (Prod.fst (Prod.snd (Prod.snd b))) 1 none, AV.bo (decide (IntKind.wrap .i64 ((↑(Prod.fst (Prod.snd (Prod.snd b))) : Int) + (↑(ByteArray.size (bv (n_3, n_4, s_1))) : Int)) > (262144 : Int))), .bad, .bad, .bad, .bad, .bad, .bad, .bad, AV.sl 0 off len 3 cap, AV.i .i64 (↑len : Int), AV.i .i64 (IntKind.wrap .i64 (Prod.fst (Prod.snd b) + (1 : Int))), .bad, .bad, .bad, .bad, .bad, .bad, .bad, .bad, .bad, .bad, .bad, .bad, .bad, .bad, .bad, .bad, .bad, .bad, .bad, .bad, .bad, .bad, .bad, .bad, .bad, .bad, .bad], h := [Blk.cells c false, Blk.cells (Prod.snd (Prod.snd (Prod.snd b))) true, Blk.cells [AV.i .u8 n_1, AV.i .i64 n_2, AV.s s] true] } { t := [.bad, .bad, .bad, .bad, AV.sl 1 0 (Prod.snd (Prod.snd b)).1 1 none, AV.bo (decide (IntKind.wrap .i64 ((↑(Prod.fst (Prod.snd (Prod.snd b))) : Int) + (↑(ByteArray.size (bv (n_3, n_4, s_1))) : Int)) > (262144 : Int))), .bad, .bad, .bad, .bad, .bad, .bad, .bad, AV.sl 0 off len 3 cap, AV.i .i64 (↑len : Int), AV.i .i64 (IntKind.wrap .i64 (Prod.fst (Prod.snd b) + (1 : Int))), .bad, .bad, .bad, .bad, .bad, .bad, .bad, .bad, .bad, .bad, .bad, .bad, .bad, .bad, .bad, .bad, .bad, .bad, .bad, .bad, .bad, .bad, .bad, .bad, .bad, .bad, .bad], h := [Blk.cells c false, Blk.cells (Prod.snd (Prod.snd b)).2 true] } ∧ ∃ (m : Nat), Holds (m < n) ∧ I m (Sum.inr (decide (IntKind.wrap .i64 ((↑(Prod.fst (Prod.snd (Prod.snd b))) : Int) + (↑(ByteArray.size (bv (n_3, n_4, s_1))) : Int)) > (262144 : Int)), IntKind.wrap .i64 (Prod.fst (Prod.snd b) + (1 : Int)), Prod.fst (Prod.snd (Prod.snd b)), Prod.snd (Prod.snd (Prod.snd b))))) (Holds ((Prod.fst (Prod.snd (Prod.snd b)) + ByteArray.size (bv (n_3, n_4, s_1))) * 1 ≤ 140737488355328) ∧ Holds (List.all (bytesAV (bv (n_3, n_4, s_1))) AV.one = true) ∧ Holds (0 + Prod.fst (Prod.snd (Prod.snd b)) * 1 = List.length (Prod.snd (Prod.snd b)).2) ∧ Wk 1 { t := [.bad, .bad, .bad, .bad, AV.sl 3 0 (Prod.fst (Prod.snd (Prod.snd b)) + ByteArray.size (bv (n_3, n_4, s_1))) 1 none, AV.bo (decide (IntKind.wrap .i64 ((↑(Prod.fst (Prod.snd (Prod.snd b))) : Int) + (↑(ByteArray.size (bv (n_3, n_4, s_1))) : Int)) > (262144 : Int))), .bad, .bad, .bad, .bad, .bad, .bad, .bad, AV.sl 0 off len 3 cap, AV.i .i64 (↑len : Int), AV.i .i64 (IntKind.wrap .i64 (Prod.fst (Prod.snd b) + (1 : Int))), .bad, .bad, .bad, .bad, .bad, .bad, .bad, .bad, .bad, .bad, .bad, .bad, .bad, .bad, .bad, .bad, .bad, .bad, .bad, .bad, .bad, .bad, .bad, .bad, .bad, .bad, .bad], h := [Blk.cells c false, Blk.dead, Blk.cells [AV.i .u8 n_1, AV.i .i64 n_2, AV.s s] true, Blk.cells ((Prod.snd (Prod.snd b)).2 ++ bytesAV (bv (n_3, n_4, s_1))) true] } { t := [.bad, .bad, .bad, .bad, AV.sl 1 0 (Prod.fst (Prod.snd (Prod.snd b)) + ByteArray.size (bv (n_3, n_4, s_1))) 1 none, AV.bo (decide (IntKind.wrap .i64 ((↑(Prod.fst (Prod.snd (Prod.snd b))) : Int) + (↑(ByteArray.size (bv (n_3, n_4, s_1))) : Int)) > (262144 : Int))), .bad, .bad, .bad, .bad, .bad, .bad, .bad, AV.sl 0 off len 3 cap, AV.i .i64 (↑len : Int), AV.i .i64 (IntKind.wrap .i64 (Prod.fst (Prod.snd b) + (1 : Int))), .bad, .bad, .bad, .bad, .bad, .bad, .bad, .bad, .bad, .bad, .bad, .bad, .bad, .bad, .bad, .bad, .bad, .bad, .bad, .bad, .bad, .bad, .bad, .bad, .bad, .bad, .bad], h := [Blk.cells c false, Blk.cells ((Prod.snd (Prod.snd b)).2 ++ bytesAV (bv (n_3, n_4, s_1))) true] } ∧ ∃ (m : Nat), Holds (m < n) ∧ I m (Sum.inr (decide (IntKind.wrap .i64 ((↑(Prod.fst (Prod.snd (Prod.snd b))) : Int) + (↑(ByteArray.size (bv (n_3, n_4, s_1))) : Int)) > (262144 : Int)), IntKind.wrap .i64 (Prod.fst (Prod.snd b) + (1 : Int)), Prod.fst (Prod.snd (Prod.snd b)) + ByteArray.size (bv (n_3, n_4, s_1)), (Prod.snd (Prod.snd b)).2 ++ bytesAV (bv (n_3, n_4, s_1)))))) (Wk 1 { t := [.bad, .bad, .bad, .bad, AV.sl 1 0 (Prod.fst (Prod.snd (Prod.snd b))) 1 none, AV.bo (decide (IntKind.wrap .i64 ((↑(Prod.fst (Prod.snd (Prod.snd b))) : Int) + (↑(ByteArray.size (bv (n_3, n_4, s_1))) : Int)) > (262144 : Int))), .bad, .bad, .bad, .bad, .bad, .bad, .bad, AV.sl 0 off len 3 cap, AV.i .i64 (↑len : Int), AV.i .i64 (IntKind.wrap .i64 (Prod.fst (Prod.snd b) + (1 : Int))), .bad, .bad, .bad, .bad, .bad, .bad, .bad, .bad, .bad, .bad, .bad, .bad, .bad, .bad, .bad, .bad, .bad, .bad, .bad, .bad, .bad, .bad, .bad, .bad, .bad, .bad, .bad], h := [Blk.cells c false, Blk.cells (Prod.snd (Prod.snd (Prod.snd b))) true, Blk.cells [AV.i .u8 n_1, AV.i .i64 n_2, AV.s s] true] } { t := [.bad, .bad, .bad, .bad, AV.sl 1 0 (Prod.snd (Prod.snd b)).1 1 none, AV.bo (decide (IntKind.wrap .i64 ((↑(Prod.fst (Prod.snd (Prod.snd b))) : Int) + (↑(ByteArray.size (bv (n_3, n_4, s_1))) : Int)) > (262144 : Int))), .bad, .bad, .bad, .bad, .bad, .bad, .bad, AV.sl 0 off len 3 cap, AV.i .i64 (↑len : Int), AV.i .i64 (IntKind.wrap .i64 (Prod.fst (Prod.snd b) + (1 : Int))), .bad, .bad, .bad, .bad, .bad, .bad, .bad, .bad, .bad, .bad, .bad, .bad, .bad, .bad, .bad, .bad, .bad, .bad, .bad, .bad, .bad, .bad, .bad, .bad, .bad, .bad, .bad], h := [Blk.cells c false, Blk.cells (Prod.snd (Prod.snd b)).2 true] } ∧ ∃ (m : Nat), Holds (m < n) ∧ I m (Sum.inr (decide (IntKind.wrap .i64 ((↑(Prod.fst (Prod.snd (Prod.snd b))) : Int) + (↑(ByteArray.size (bv (n_3, n_4, s_1))) : Int)) > (262144 : Int)), IntKind.wrap .i64 (Prod.fst (Prod.snd b) + (1 : Int)), Prod.fst (Prod.snd (Prod.snd b)), Prod.snd (Prod.snd (Prod.snd b)))))))) (br (Prod.fst b) (R (AV.tu [AV.sn, AV.i .i64 3]) [Blk.cells c false, Blk.cells (Prod.snd (Prod.snd (Prod.snd b))) true]) (R (AV.tu [AV.sl 1 0 (Prod.fst (Prod.snd (Prod.snd b))) 1 none, AV.i .i64 0]) [Blk.cells c false, Blk.cells (Prod.snd (Prod.snd (Prod.snd b))) true]))) := by kernel_rfl
set_option maxRecDepth 1000000 in
theorem vc15n (R : AV → Hp → Prop) : (wpFn P tnil noW (head15 .sn []) 0 Go.Proofs.Try.f15 [.sn] [] R) = (Wk 0 { t := [AV.sn, .bad, .bad, AV.i .i64 0, AV.i .i64 0, .bad, .bad, .bad, .bad, .bad, .bad, .bad, .bad, .bad, .bad, .bad, .bad, .bad, .bad, .bad, .bad, .bad, .bad, .bad, .bad, .bad, .bad, .bad, .bad, .bad, .bad], h := [] } { t := [AV.sn, .bad, .bad, AV.i .i64 0, AV.i .i64 0, .bad, .bad, .bad, .bad, .bad, .bad, .bad, .bad, .bad, .bad, .bad, .bad, .bad, .bad, .bad, .bad, .bad, .bad, .bad, .bad, .bad, .bad, .bad, .bad, .bad, .bad], h := [] } ∧ ∃ (I : Nat → Int × Int → Prop), ∃ (n : Nat), I n ((0 : Int), (0 : Int)) ∧ ∀ (a : Int × Int) (n : Nat), I n a → br (decide (Prod.snd a < (0 : Int))) (br (decide (Prod.snd a ≤ (5000 : Int))) False (R (AV.bo (decide (Prod.fst a > (600000 : Int)))) [])) (R (AV.bo (decide (Prod.fst a > (600000 : Int)))) [])) := by kernel_rfl
set_option maxRecDepth 1000000 in
theorem vc15 (off len : Nat) (cap : Option Nat) (c : List AV) (R : AV → Hp → Prop) : (wpFn P tnil noW (head15 (.sl 0 off len 3 cap) [.cells c false]) 1 Go.Proofs.Try.f15 [.sl 0 off len 3 cap] [.cells c false] R) = (Wk 1 { t := [AV.sl 0 off len 3 cap, .bad, .bad, AV.i .i64 0, AV.i .i64 0, .bad, .bad, .bad, .bad, .bad, .bad, .bad, .bad, .bad, .bad, .bad, .bad, .bad, .bad, .bad, .bad, .bad, .bad, .bad, .bad, .bad, .bad, .bad, .bad, .bad, .bad], h := [Blk.cells c false] } { t := [AV.sl 0 off len 3 cap, .bad, .bad, AV.i .i64 0, AV.i .i64 0, .bad, .bad, .bad, .bad, .bad, .bad, .bad, .bad, .bad, .bad, .bad, .bad, .bad, .bad, .bad, .bad, .bad, .bad, .bad, .bad, .bad, .bad, .bad, .bad, .bad, .bad], h := [Blk.cells c false] } ∧ ∃ (I : Nat → Int × Int → Prop), ∃ (n : Nat), I n ((0 : Int), (0 : Int)) ∧ ∀ (a : Int × Int) (n : Nat), I n a → br (decide (Prod.snd a < (↑len : Int))) (br (decide (Prod.snd a ≤ (5000 : Int))) (Holds ((0 : Int) ≤ Prod.snd a ∧ Prod.snd a < (↑len : Int)) ∧ ∃ (s : ByteArray), Holds (c[off + Int.toNat (Prod.snd a) * 3 + 2]? = some (AV.s s)) ∧ Wk 1 { t := [AV.sl 0 off len 3 cap, .bad, .bad, AV.i .i64 (IntKind.wrap .i64 (Prod.fst a + if (600001 : Int) < (↑(ByteArray.size s) : Int) then (600001 : Int) else (↑(ByteArray.size s) : Int))), AV.i .i64 (IntKind.wrap .i64 (Prod.snd a + (1 : Int))), .bad, .bad, .bad, .bad, .bad, .bad, .bad, .bad, .bad, .bad, .bad, .bad, .bad, .bad, .bad, .bad, .bad, .bad, .bad, .bad, .bad, .bad, .bad, .bad, .bad, .bad], h := [Blk.cells c false] } { t := [AV.sl 0 off len 3 cap, .bad, .bad, AV.i .i64 (IntKind.wrap .i64 (Prod.fst a + if (600001 : Int) < (↑(ByteArray.size s) : Int) then (600001 : Int) else (↑(ByteArray.size s) : Int))), AV.i .i64 (IntKind.wrap .i64 (Prod.snd a + (1 : Int))), .bad, .bad, .bad, .bad, .bad, .bad, .bad, .bad, .bad, .bad, .bad, .bad, .bad, .bad, .bad, .bad, .bad, .bad, .bad, .bad, .bad, .bad, .bad, .bad, .bad, .bad], h := [Blk.cells c false] } ∧ ∃ (m : Nat), Holds (m < n) ∧ I m (IntKind.wrap .i64 (Prod.fst a + if (600001 : Int) < (↑(ByteArray.size s) : Int) then (600001 : Int) else (↑(ByteArray.size s) : Int)), IntKind.wrap .i64 (Prod.snd a + (1 : Int)))) (br (decide ((↑len : Int) > (5000 : Int))) (R (AV.bo true) [Blk.cells c false]) (R (AV.bo (decide (Prod.fst a > (600000 : Int)))) [Blk.cells c false]))) (br (decide ((↑len : Int) > (5000 : Int))) (R (AV.bo true) [Blk.cells c false]) (R (AV.bo (decide (Prod.fst a > (600000 : Int)))) [Blk.cells c false]))) := by kernel_rfl
set_option maxRecDepth 1000000 in
theorem vc16n (bv : Ev → ByteArray) (ov : Ev → Bool) (ok ok' : Ev → Prop) (R : AV → Hp → Prop) : (wpFn P (tcons 18 (t0 unEv ok fun x K => K (.bo (ov x)) []) (tcons 22 (t0 unEv ok' fun x K => K (.s (bv x)) []) tnil)) noW (head16 .sn []) 0 Go.Proofs.Try.f16 [.sn] [] R) = (Wk 0 { t := [AV.sn, .bad, .bad, .bad, AV.i .i64 0, AV.i .i64 0, .bad, .bad, .bad, .bad, .bad, .bad, .bad, .bad, .bad, .bad, .bad, .bad, .bad, .bad, .bad, .bad, .bad, .bad, .bad, .bad, .bad, .bad, .bad, .bad, .bad, .bad, .bad, .bad], h := [] } { t := [AV.sn, .bad, .bad, .bad, AV.i .i64 0, AV.i .i64 0, .bad, .bad, .bad, .bad, .bad, .bad, .bad, .bad, .bad, .bad, .bad, .bad, .bad, .bad, .bad, .bad, .bad, .bad, .bad, .bad, .bad, .bad, .bad, .bad, .bad, .bad, .bad, .bad], h := [] } ∧ ∃ (I : Nat → Int × Int → Prop), ∃ (n : Nat), I n ((0 : Int), (0 : Int)) ∧ ∀ (a : Int × Int) (n : Nat), I n a → br (decide (Prod.snd a < (0 : Int))) False (br (decide (Prod.fst a > (262144 : Int))) (R (AV.tu [AV.i .i64 0, AV.i .i64 3]) []) (R (AV.tu [AV.i .i64 (Prod.fst a), AV.i .i64 0]) []))) := by kernel_rfl
set_option maxRecDepth 1000000 in
theorem vc16 (bv : Ev → ByteArray) (ov : Ev → Bool) (ok ok' : Ev → Prop) (off len : Nat) (cap : Option Nat) (c : List AV) (R : AV → Hp → Prop) : (wpFn P (tcons 18 (t0 unEv ok fun x K => K (.bo (ov x)) []) (tcons 22 (t0 unEv ok' fun x K => K (.s (bv x)) []) tnil)) noW (head16 (.sl 0 off len 3 cap) [.cells c false]) 1 Go.Proofs.Try.f16 [.sl 0 off len 3 cap] [.cells c false] R) = (Wk 1 { t := [AV.sl 0 off len 3 cap, .bad, .bad, .bad, AV.i .i64 0, AV.i .i64 0, .bad, .bad, .bad, .bad, .bad, .bad, .bad, .bad, .bad, .bad, .bad, .bad, .bad, .bad, .bad, .bad, .bad, .bad, .bad, .bad, .bad, .bad, .bad, .bad, .bad, .bad, .bad, .bad], h := [Blk.cells c false] } { t := [AV.sl 0 off len 3 cap, .bad, .bad, .bad, AV.i .i64 0, AV.i .i64 0, .bad, .bad, .bad, .bad, .bad, .bad, .bad, .bad, .bad, .bad, .bad, .bad, .bad, .bad, .bad, .bad, .bad, .bad, .bad, .bad, .bad, .bad, .bad, .bad, .bad, .bad, .bad, .bad], h := [Blk.cells c false] } ∧ ∃ (I : Nat → Int × Int → Prop), ∃ (n : Nat), I n ((0 : Int), (0 : Int)) ∧ ∀ (a : Int × Int) (n : Nat), I n a → br (decide (Prod.snd a < (↑len : Int))) (Holds ((0 : Int) ≤ Prod.snd a ∧ Prod.snd a < (↑len : Int)) ∧ ∃ (n_1 : Int), ∃ (n_2 : Int), ∃ (s : ByteArray), Holds (List.take 3 (List.drop (off + Int.toNat (Prod.snd a) * 3) c) = [AV.i .u8 n_1, AV.i .i64 n_2, AV.s s]) ∧ Holds (ok (n_1, n_2, s)) ∧ br (!ov (n_1, n_2, s)) (R (AV.tu [AV.i .i64 0, AV.i .i64 1]) [Blk.cells c false]) (Holds ((0 : Int) ≤ Prod.snd a ∧ Prod.snd a < (↑len : Int)) ∧ ∃ (n_3 : Int), ∃ (n_4 : Int), ∃ (s : ByteArray), Holds (List.take 3 (List.drop (off + Int.toNat (Prod.snd a) * 3) c) = [AV.i .u8 n_3, AV.i .i64 n_4, AV.s s]) ∧ Holds (ok' (n_3, n_4, s)) ∧ Wk 1 { t := [AV.sl 0 off len 3 cap, .bad, .bad, .bad, AV.i .i64 (IntKind.wrap .i64 (Prod.fst a + (↑(ByteArray.size (bv (n_3, n_4, s))) : Int))), AV.i .i64 (IntKind.wrap .i64 (Prod.snd a + (1 : Int))), .bad, .bad, .bad, .bad, .bad, .bad, .bad, .bad, .bad, .bad, .bad, .bad, .bad, .bad, .bad, .bad, .bad, .bad, .bad, .bad, .bad, .bad, .bad, .bad, .bad, .bad, .bad, .bad], h := [Blk.cells c false] } { t := [AV.sl 0 off len 3 cap, .bad, .bad, .bad, AV.i .i64 (IntKind.wrap .i64 (Prod.fst a + (↑(ByteArray.size (bv (n_3, n_4, s))) : Int))), AV.i .i64 (IntKind.wrap .i64 (Prod.snd a + (1 : Int))), .bad, .bad, .bad, .bad, .bad, .bad, .bad, .bad, .bad, .bad, .bad, .bad, .bad, .bad, .bad, .bad, .bad, .bad, .bad, .bad, .bad, .bad, .bad, .bad, .bad, .bad, .bad, .bad], h := [Blk.cells c false] } ∧ ∃ (m : Nat), Holds (m < n) ∧ I m (IntKind.wrap .i64 (Prod.fst a + (↑(ByteArray.size (bv (n_3, n_4, s))) : Int)), IntKind.wrap .i64 (Prod.snd a + (1 : Int))))) (br (decide ((↑len : Int) > (4096 : Int))) (R (AV.tu [AV.i .i64 0, AV.i .i64 3]) [Blk.cells c false]) (br (decide (Prod.fst a > (262144 : Int))) (R (AV.tu [AV.i .i64 0, AV.i .i64 3]) [Blk.cells c false]) (R (AV.tu [AV.i .i64 (Prod.fst a), AV.i .i64 0]) [Blk.cells c false])))) := by kernel_rfl
/-! writing lists -/
def catB : List Ev → List UInt8
  | [] => []
  | e :: l => (bytesE e).data.toList ++ catB l
theorem catB_append : ∀ (a b : List Ev), catB (a ++ b) = catB a ++ catB b
  | [], b => rfl
  | e :: a, b => by simp only [List.cons_append, catB, catB_append a b, List.append_assoc]
theorem catB_one (e : Ev) : catB [e] = (bytesE e).data.toList := by simp [catB]
/-- The bytes that are answered, and the code. -/
def enc (l : List Ev) : List UInt8 × Int :=
  if l.all okE = true then (if l.length > 4096 ∨ (catB l).length > 262144 then ([], 3) else (catB l, 0)) else ([], 1)
def okEv (l : List Ev) : Prop := l.length ≤ 1099511627776 ∧ ∀ e ∈ l, e.2.2.size ≤ 4611686018427387904
theorem tail_size {e : Ev} (h : okE e = true) : (bytesE e).size ≤ 65580 := by
  obtain ⟨k, n, t⟩ := e
  simp only [okE, decide_eq_true_eq] at h
  have z2 := Lb_size (x := t.size) (n := 2) (by decide)
  have z3 := Lb_size (x := t.size) (n := 3) (by decide)
  have z4 := Lb_size (x := n) (n := 4) (by decide)
  have z0 : (⟨#[]⟩ : ByteArray).size = 0 := rfl
  rw [bytesE, append_size, textOf_size]
  simp only [tailE, List.length_cons, List.length_nil]
  split
  · split <;> omega
  split
  · split
    · rw [append_size]; omega
    · omega
  split
  · split
    · rw [append_size]; omega
    · omega
  · omega
theorem bytes_pos (e : Ev) : 0 < (bytesE e).size := by rw [bytesE, append_size, textOf_size]; simp; omega
theorem catB_len : ∀ {l : List Ev}, l.all okE = true → (catB l).length ≤ 65580 * l.length
  | [], _ => by simp [catB]
  | e :: l, h => by
    simp only [List.all_cons, Bool.and_eq_true] at h
    have h1 := tail_size h.1
    have h2 := catB_len h.2
    rw [catB, List.length_append, size_list, List.length_cons, Nat.mul_succ]; omega
theorem catB_take_le (l : List Ev) (i : Nat) : (catB (l.take i)).length ≤ (catB l).length := by
  conv => rhs; rw [← List.take_append_drop i l, catB_append, List.length_append]
  omega
theorem take_all {l : List Ev} {i : Nat} (hi : i < l.length) : (l.take (i + 1)).all okE = ((l.take i).all okE && okE l[i]) := by
  rw [← List.take_append_getElem hi, List.all_append]; simp
theorem take_cat {l : List Ev} {i : Nat} (hi : i < l.length) : catB (l.take (i + 1)) = catB (l.take i) ++ (bytesE l[i]).data.toList := by
  rw [← List.take_append_getElem hi, catB_append, catB_one]
theorem enc_bad {l : List Ev} {i : Nat} (hi : i < l.length) (h : okE l[i] = false) : enc l = ([], 1) := by
  unfold enc
  rw [if_neg]
  intro e
  have := List.all_eq_true.1 e l[i] (List.getElem_mem hi)
  rw [h] at this; cases this
theorem bytesAV_eq (s : ByteArray) : bytesAV s = recs mkB s.data.toList := by
  unfold bytesAV
  exact (recs_map (f := fun b : UInt8 => AV.i .u8 (b.toNat : Int)) _).symm
def resE (l : List Ev) : AV × Hp := match (enc l).1 with
  | [] => (.tu [.sn, .i .i64 (enc l).2], [])
  | b :: bs => (.tu [.sl 0 0 (bs.length + 1) 1 none, .i .i64 (enc l).2], [.cells (recs mkB (b :: bs)) true])
theorem resE_new (l : List Ev) : newOk (resE l).2 = true := by
  unfold resE
  split
  · rfl
  · simp [newOk, Blk.wrB, recs_unders mkB_u]
theorem resE_nil {k : Nat} {l : List Ev} {x : Int} (h : enc l = ([], x)) {R : AV → Hp → Prop} (hR : Done k (resE l) R) {h1 : Hp} (hl : k ≤ h1.length) : R (.tu [.sn, .i .i64 x]) h1 := by
  unfold resE at hR
  rw [h] at hR
  exact hR.flat rfl hl
theorem resE_row {k : Nat} {l : List Ev} {x : Int} {bs : List UInt8} (h : enc l = (bs, x)) (hb : bs ≠ []) {R : AV → Hp → Prop} (hR : Done k (resE l) R) {h1 : Hp} {id n : Nat} (hn : n = bs.length) (hid : h1[id]? = some (.cells (recs mkB bs) true)) (hk : k ≤ id) : R (.tu [.sl id 0 n 1 none, .i .i64 x]) h1 := by
  subst hn
  unfold resE at hR
  rw [h] at hR
  cases bs with
  | nil => exact absurd rfl hb
  | cons b bs => exact Done.row hR hid hk (recs_unders mkB_u _) fun f hf => by simp [reA, reAs, hf, sh]
abbrev Tenc : TEnv := tcons 21 (t0 unEv (fun e => e.2.2.size ≤ 4611686018427387904) fun x K => K (.tu [.s (bytesE x), .bo (okE x)]) []) tnil
theorem run14n {R : AV → Hp → Prop} (hR : Done 0 (resE []) R) : Holds (wpFn P Tenc noW (head14 .sn 0 []) 0 Go.Proofs.Try.f14 [.sn] [] R) := by
  refine ⟨?_⟩
  rw [vc14n]
  simp only [↓br_ite, ↓reduceIte, holds_eq, List.getElem?_cons_zero, List.getElem?_cons_succ, Option.some.injEq, AV.i.injEq, AV.s.injEq, AV.bo.injEq, true_and, and_true, List.cons.injEq, List.length_cons, List.length_nil, and_assoc, exists_and_left, exists_eq_left', exists_eq_left, br_true, br_false, Nat.zero_add, Nat.add_zero, Nat.reduceAdd, Nat.reduceLeDiff, Nat.le_refl, numsOf_one, beq_self_eq_true, Int.reduceLE, Int.reduceLT, Int.reduceAdd, Int.reduceSub, Int.reduceMul, Int.reduceNeg, Int.reduceToNat, Int.reducePow, Int.reduceMod, Int.reduceDiv, Int.cast_ofNat_Int, Int.reduceBEq, i64w, decide_true, decide_false, Int.le_refl, Nat.min_def, reduceIte, Int.one_mul, bits64, Int.natCast_add, Bool.false_eq_true, wk_and, int_bne, decide_eq_true_eq]
  refine ⟨fun _ q => q = Sum.inl (false, 0), 0, rfl, fun s n h => ?_, fun s n h => (by cases h)⟩
  cases h
  simp only [Int.reduceLT, if_false, Bool.false_eq_true]
  exact resE_nil rfl hR (by simp)
def longB (l : List Ev) (i : Nat) : Bool := decide (l.length > 4096 ∨ (catB (l.take i)).length > 262144)
def Ienc (l : List Ev) (n : Nat) (q : Bool × Int ⊕ Bool × Int × Nat × List AV) : Prop := match q with
  | .inl q => ∃ i : Nat, q.2 = i ∧ i + n = l.length ∧ (l.take i).all okE = true ∧ q.1 = longB l i ∧ (q.1 = false → catB (l.take i) = [])
  | .inr q => ∃ (i : Nat) (bs : List UInt8), q.2.1 = i ∧ i + n = l.length ∧ (l.take i).all okE = true ∧ q.1 = longB l i ∧ q.2.2.1 = bs.length ∧ q.2.2.2 = recs mkB bs ∧ bs ≠ [] ∧ bs.length ≤ 1099511627776 ∧ (q.1 = false → bs = catB (l.take i))
theorem long_step {l : List Ev} {i : Nat} (hi : i < l.length) (h : longB l i = true) : longB l (i + 1) = true := by
  simp only [longB, decide_eq_true_eq] at h ⊢
  rcases h with h | h
  · exact .inl h
  · exact .inr (by rw [take_cat hi, List.length_append]; omega)
theorem long_new {l : List Ev} {i : Nat} (hi : i < l.length) (h : longB l i = false) {x : Int} (hx : x = (catB (l.take i)).length + (bytesE l[i]).size) : decide (x > 262144) = longB l (i + 1) := by
  simp only [longB, decide_eq_false_iff_not, not_or] at h
  have h1 : (catB (l.take (i + 1))).length = (catB (l.take i)).length + (bytesE l[i]).size := by rw [take_cat hi, List.length_append, size_list]
  unfold longB
  rw [decide_eq_decide, h1]
  omega
theorem long_lt {l : List Ev} {i : Nat} (h : longB l i = false) : (catB (l.take i)).length ≤ 262144 := by
  simp only [longB, decide_eq_false_iff_not, not_or] at h
  omega
theorem enc_end {l : List Ev} (h : l.all okE = true) : enc l = if longB l l.length = true then ([], 3) else (catB l, 0) := by
  unfold enc longB
  rw [if_pos h, List.take_length]
  simp only [decide_eq_true_eq]
set_option maxRecDepth 20000 in
theorem run14 {l : List Ev} {off : Nat} {cap : Option Nat} {c : List AV} (hok : okEv l) (hw : (c.drop off).take (l.length * 3) = recs mkEv l) (hu : AV.unders 0 c = true)
    {R : AV → Hp → Prop} (hR : Done 1 (resE l) R) : Holds (wpFn P Tenc noW (head14 (.sl 0 off l.length 3 cap) l.length [.cells c false]) 1 Go.Proofs.Try.f14 [.sl 0 off l.length 3 cap] [.cells c false] R) := by
  obtain ⟨hlen, hsz⟩ := hok
  refine ⟨?_⟩
  rw [vc14]
  simp only [↓br_ite, ↓reduceIte, holds_eq, List.getElem?_cons_zero, List.getElem?_cons_succ, Option.some.injEq, AV.i.injEq, AV.s.injEq, AV.bo.injEq, true_and, and_true, List.cons.injEq, List.length_cons, List.length_nil, and_assoc, exists_and_left, exists_eq_left', exists_eq_left, br_true, br_false, Nat.zero_add, Nat.add_zero, Nat.reduceAdd, Nat.reduceLeDiff, Nat.le_refl, numsOf_one, beq_self_eq_true, Int.reduceLE, Int.reduceLT, Int.reduceAdd, Int.reduceSub, Int.reduceMul, Int.reduceNeg, Int.reduceToNat, Int.reducePow, Int.reduceMod, Int.reduceDiv, Int.cast_ofNat_Int, Int.reduceBEq, i64w, decide_true, decide_false, Int.le_refl, Nat.min_def, reduceIte, Int.one_mul, bits64, Int.natCast_add, Bool.false_eq_true, wk_and, int_bne, decide_eq_true_eq]
  refine ⟨Ienc l, l.length, ⟨0, rfl, by omega, rfl, ?_, fun _ => rfl⟩, ?_, ?_⟩
  · simp only [longB]
    rw [decide_eq_decide]
    simp [catB]; omega
  · rintro ⟨b, a⟩ n ⟨i, h1, h2, h3, h4, h5⟩
    simp only at h1 h4 h5 ⊢
    subst h1
    by_cases hi : (i : Int) < l.length
    · rw [if_pos hi]
      have hi' : i < l.length := by omega
      have e1 := recs_in mkEv_len hw rfl (List.getElem?_eq_getElem hi')
      have hp := bytes_pos l[i]
      refine ⟨by omega, hi, l[i].1, l[i].2.1, l[i].2.2, by rw [Int.toNat_natCast]; exact e1, hsz _ (List.getElem_mem hi'), ?_⟩
      simp only [show (l[i].1, l[i].2.1, l[i].2.2) = l[i] from rfl]
      cases hk : okE l[i] with
      | false =>
        simp only [Bool.not_false, if_true]
        exact resE_nil (enc_bad hi' hk) hR (by simp)
      | true =>
        simp only [Bool.not_true, Bool.false_eq_true, if_false]
        have hs := tail_size hk
        have w1 : IntKind.wrap .i64 ((i : Int) + 1) = i + 1 := i64w (by omega) (by omega)
        have w2 : IntKind.wrap .i64 (0 + ((bytesE l[i]).size : Int)) = (bytesE l[i]).size := by rw [i64w (by omega) (by omega)]; omega
        simp only [w1, w2]
        cases b with
        | true =>
          simp only [if_true]
          exact ⟨Wk.rows [0] (by decide) rfl rfl (gcR_one rfl hu) rfl, n - 1, by omega, i + 1, by simp only; omega, by omega, by rw [take_all hi', h3, hk]; rfl, (long_step hi' h4.symm).symm, fun h => by cases h⟩
        | false =>
          have hc := h5 rfl
          have hn := long_new hi' h4.symm (x := (bytesE l[i]).size) (by rw [hc]; simp)
          simp only [Bool.false_eq_true, if_false, hn]
          cases hb : longB l (i + 1) with
          | true =>
            simp only [Bool.not_true, Bool.false_eq_true, if_false]
            exact ⟨Wk.rows [0] (by decide) rfl rfl (gcR_one rfl hu) rfl, n - 1, by omega, i + 1, by simp only; omega, by omega, by rw [take_all hi', h3, hk]; rfl, hb.symm, fun h => by cases h⟩
          | false =>
            have z : ((bytesE l[i]).size == 0) = false := beq_false_of_ne (by omega)
            simp only [Bool.not_false, if_true, z, Bool.false_eq_true, if_false]
            refine ⟨by omega, Wk.rows [0, 2] (by decide) rfl rfl (gcR_two rfl hu rfl (by rw [bytesAV_eq]; exact recs_unders mkB_u _)) rfl, n - 1, by omega, ?_⟩
            refine ⟨i + 1, (bytesE l[i]).data.toList, by simp only; omega, by omega, by rw [take_all hi', h3, hk]; rfl, hb.symm, by rw [size_list], by rw [bytesAV_eq], ?_, by rw [size_list]; omega, fun _ => by rw [take_cat hi', hc]; rfl⟩
            intro e; have := congrArg List.length e; rw [size_list, List.length_nil] at this; omega
    · rw [if_neg hi]
      have : i = l.length := by omega
      subst this
      rw [List.take_length] at h3 h5
      cases b with
      | true => exact resE_nil (by rw [enc_end h3, ← h4]; rfl) hR (by simp)
      | false => exact resE_nil (by rw [enc_end h3, ← h4, h5 rfl]; rfl) hR (by simp)
  · rintro ⟨b, a, len, cells⟩ n ⟨i, bs, h1, h2, h3, h4, h6, h7, h8, h9, h5⟩
    simp only at h1 h4 h5 h6 h7 ⊢
    subst h1 h6 h7
    by_cases hi : (i : Int) < l.length
    · rw [if_pos hi]
      have hi' : i < l.length := by omega
      have e1 := recs_in mkEv_len hw rfl (List.getElem?_eq_getElem hi')
      have hp := bytes_pos l[i]
      refine ⟨by omega, hi, l[i].1, l[i].2.1, l[i].2.2, by rw [Int.toNat_natCast]; exact e1, hsz _ (List.getElem_mem hi'), ?_⟩
      simp only [show (l[i].1, l[i].2.1, l[i].2.2) = l[i] from rfl]
      cases hk : okE l[i] with
      | false =>
        simp only [Bool.not_false, if_true]
        exact resE_nil (enc_bad hi' hk) hR (by simp)
      | true =>
        simp only [Bool.not_true, Bool.false_eq_true, if_false]
        have hs := tail_size hk
        have w1 : IntKind.wrap .i64 ((i : Int) + 1) = i + 1 := i64w (by omega) (by omega)
        have w2 : IntKind.wrap .i64 ((bs.length : Int) + ((bytesE l[i]).size : Int)) = bs.length + (bytesE l[i]).size := i64w (by omega) (by omega)
        simp only [w1, w2]
        cases b with
        | true =>
          simp only [if_true]
          exact ⟨Wk.rows [0, 1] (by decide) rfl rfl (gcR_two rfl hu rfl (recs_unders mkB_u _)) rfl, n - 1, by omega, i + 1, bs, by simp only; omega, by omega, by rw [take_all hi', h3, hk]; rfl, (long_step hi' h4.symm).symm, rfl, rfl, h8, h9, fun h => by cases h⟩
        | false =>
          have hc := h5 rfl
          have hn := long_new hi' h4.symm (x := bs.length + (bytesE l[i]).size) (by rw [hc])
          have hlt := long_lt h4.symm
          rw [← hc] at hlt
          simp only [Bool.false_eq_true, if_false, hn]
          cases hb : longB l (i + 1) with
          | true =>
            simp only [Bool.not_true, Bool.false_eq_true, if_false]
            exact ⟨Wk.rows [0, 1] (by decide) rfl rfl (gcR_two rfl hu rfl (recs_unders mkB_u _)) rfl, n - 1, by omega, i + 1, bs, by simp only; omega, by omega, by rw [take_all hi', h3, hk]; rfl, hb.symm, rfl, rfl, h8, h9, fun h => by cases h⟩
          | false =>
            have z : ((bytesE l[i]).size == 0) = false := beq_false_of_ne (by omega)
            simp only [Bool.not_false, if_true, z, Bool.false_eq_true, if_false]
            have hr : recs mkB bs ++ bytesAV (bytesE l[i]) = recs mkB (bs ++ (bytesE l[i]).data.toList) := by rw [bytesAV_eq, recs_append]
            refine ⟨by omega, by rw [bytesAV_eq]; exact recs_one_all (fun _ => rfl) _, by rw [recs_length mkB_len], ?_⟩
            rw [hr]
            refine ⟨Wk.rows [0, 3] (by decide) rfl rfl (gcR_two rfl hu rfl (recs_unders mkB_u _)) rfl, n - 1, by omega, ?_⟩
            exact ⟨i + 1, bs ++ (bytesE l[i]).data.toList, by simp only; omega, by omega, by rw [take_all hi', h3, hk]; rfl, hb.symm, by rw [List.length_append, size_list], rfl, by simp [h8], by rw [List.length_append, size_list]; omega, fun _ => by rw [take_cat hi', hc]⟩
    · rw [if_neg hi]
      have : i = l.length := by omega
      subst this
      rw [List.take_length] at h3 h5
      cases b with
      | true => exact resE_nil (by rw [enc_end h3, ← h4]; rfl) hR (by simp)
      | false =>
        simp only [Bool.false_eq_true, if_false]
        have hc := h5 rfl
        exact resE_row (by rw [enc_end h3, ← h4, ← hc]; rfl) h8 hR rfl rfl (by simp)
/-! by the reference -/
abbrev TencR : TEnv := tcons 18 (t0 unEv (fun _ => True) fun x K => K (.bo (okE x)) []) (tcons 22 (t0 unEv (fun e => okE e = true) fun x K => K (.s (bytesE x)) []) tnil)
def resER (l : List Ev) : AV := .tu [.i .i64 (enc l).1.length, .i .i64 (enc l).2]
theorem run16n {R : AV → Hp → Prop} (hR : Done 0 (resER [], []) R) : Holds (wpFn P TencR noW (head16 .sn []) 0 Go.Proofs.Try.f16 [.sn] [] R) := by
  refine ⟨?_⟩
  rw [vc16n]
  simp only [↓br_ite, ↓reduceIte, holds_eq, List.getElem?_cons_zero, List.getElem?_cons_succ, Option.some.injEq, AV.i.injEq, AV.s.injEq, AV.bo.injEq, true_and, and_true, List.cons.injEq, List.length_cons, List.length_nil, and_assoc, exists_and_left, exists_eq_left', exists_eq_left, br_true, br_false, Nat.zero_add, Nat.add_zero, Nat.reduceAdd, Nat.reduceLeDiff, Nat.le_refl, numsOf_one, beq_self_eq_true, Int.reduceLE, Int.reduceLT, Int.reduceAdd, Int.reduceSub, Int.reduceMul, Int.reduceNeg, Int.reduceToNat, Int.reducePow, Int.reduceMod, Int.reduceDiv, Int.cast_ofNat_Int, Int.reduceBEq, i64w, decide_true, decide_false, Int.le_refl, Nat.min_def, reduceIte, Int.one_mul, bits64, Int.natCast_add, Bool.false_eq_true, wk_and, int_bne, decide_eq_true_eq]
  refine ⟨fun _ q => q = (0, 0), 0, rfl, fun s n h => ?_⟩
  subst h
  simp only [Int.reduceLT, if_false, Bool.false_eq_true, Int.reduceGT]
  exact hR.flat (r := resER []) rfl (by simp)
theorem run16 {l : List Ev} {off : Nat} {cap : Option Nat} {c : List AV} (hok : okEv l) (hw : (c.drop off).take (l.length * 3) = recs mkEv l) (hu : AV.unders 0 c = true)
    {R : AV → Hp → Prop} (hR : Done 1 (resER l, []) R) : Holds (wpFn P TencR noW (head16 (.sl 0 off l.length 3 cap) [.cells c false]) 1 Go.Proofs.Try.f16 [.sl 0 off l.length 3 cap] [.cells c false] R) := by
  obtain ⟨hlen, hsz⟩ := hok
  have fin : ∀ a b, a = ((enc l).1.length : Int) → b = (enc l).2 → R (.tu [.i .i64 a, .i .i64 b]) [.cells c false] := fun a b e1 e2 => by subst e1 e2; exact hR.flat rfl (by simp)
  refine ⟨?_⟩
  rw [vc16]
  simp only [↓br_ite, ↓reduceIte, holds_eq, List.getElem?_cons_zero, List.getElem?_cons_succ, Option.some.injEq, AV.i.injEq, AV.s.injEq, AV.bo.injEq, true_and, and_true, List.cons.injEq, List.length_cons, List.length_nil, and_assoc, exists_and_left, exists_eq_left', exists_eq_left, br_true, br_false, Nat.zero_add, Nat.add_zero, Nat.reduceAdd, Nat.reduceLeDiff, Nat.le_refl, numsOf_one, beq_self_eq_true, Int.reduceLE, Int.reduceLT, Int.reduceAdd, Int.reduceSub, Int.reduceMul, Int.reduceNeg, Int.reduceToNat, Int.reducePow, Int.reduceMod, Int.reduceDiv, Int.cast_ofNat_Int, Int.reduceBEq, i64w, decide_true, decide_false, Int.le_refl, Nat.min_def, reduceIte, Int.one_mul, bits64, Int.natCast_add, Bool.false_eq_true, wk_and, int_bne, decide_eq_true_eq]
  refine ⟨fun n q => ∃ i : Nat, q.2 = i ∧ i + n = l.length ∧ (l.take i).all okE = true ∧ q.1 = (catB (l.take i)).length, l.length, ⟨0, rfl, by omega, rfl, rfl⟩, ?_⟩
  rintro ⟨t, a⟩ n ⟨i, h1, h2, h3, h4⟩
  simp only at h1 h4 ⊢
  subst h1 h4
  by_cases hi : (i : Int) < l.length
  · rw [if_pos hi]
    have hi' : i < l.length := by omega
    have e1 := recs_in mkEv_len hw rfl (List.getElem?_eq_getElem hi')
    refine ⟨by omega, hi, l[i].1, l[i].2.1, l[i].2.2, by rw [Int.toNat_natCast]; exact e1, ?_⟩
    simp only [show (l[i].1, l[i].2.1, l[i].2.2) = l[i] from rfl]
    cases hk : okE l[i] with
    | false =>
      simp only [Bool.not_false, if_true]
      exact fin _ _ (by rw [enc_bad hi' hk]; rfl) (by rw [enc_bad hi' hk])
    | true =>
      simp only [Bool.not_true, Bool.false_eq_true, if_false]
      have hs := tail_size hk
      have hb := catB_len h3
      rw [List.length_take] at hb
      refine ⟨by omega, hi, l[i].1, l[i].2.1, l[i].2.2, by rw [Int.toNat_natCast]; exact e1, hk, n - 1, by omega, i + 1, ?_, by omega, by rw [take_all hi', h3, hk]; rfl, ?_⟩
      · rw [i64w (by omega) (by omega)]; omega
      · simp only [show (l[i].1, l[i].2.1, l[i].2.2) = l[i] from rfl]
        rw [i64w (by omega) (by omega), take_cat hi', List.length_append, size_list]; omega
  · rw [if_neg hi]
    have : i = l.length := by omega
    subst this
    rw [List.take_length] at h3 ⊢
    have he := enc_end h3
    have hl : longB l l.length = decide (l.length > 4096 ∨ (catB l).length > 262144) := by unfold longB; rw [List.take_length]
    rw [hl] at he
    simp only [decide_eq_true_eq] at he
    by_cases g1 : (l.length : Int) > 4096
    · rw [if_pos g1]
      rw [if_pos (.inl (by omega))] at he
      exact fin _ _ (by rw [he]; rfl) (by rw [he])
    · rw [if_neg g1]
      by_cases g2 : ((catB l).length : Int) > 262144
      · rw [if_pos g2]
        rw [if_pos (.inr (by omega))] at he
        exact fin _ _ (by rw [he]; rfl) (by rw [he])
      · rw [if_neg g2]
        rw [if_neg (by omega)] at he
        exact fin _ _ (by rw [he]) (by rw [he])
/-! too great? -/
def sumT (l : List Ev) : Int := l.foldl (fun n e => n + (if 600001 < (e.2.2.size : Int) then 600001 else (e.2.2.size : Int))) 0
def grE (l : List Ev) : Bool := decide (l.length > 5000 ∨ sumT l > 600000)
theorem sumT_snoc (l : List Ev) (e : Ev) : sumT (l ++ [e]) = sumT l + (if 600001 < (e.2.2.size : Int) then 600001 else (e.2.2.size : Int)) := by
  unfold sumT; rw [List.foldl_append]; rfl
theorem run15n {R : AV → Hp → Prop} (hR : Done 0 (.bo (grE []), []) R) : Holds (wpFn P tnil noW (head15 .sn []) 0 Go.Proofs.Try.f15 [.sn] [] R) := by
  refine ⟨?_⟩
  rw [vc15n]
  simp only [↓br_ite, ↓reduceIte, holds_eq, List.getElem?_cons_zero, List.getElem?_cons_succ, Option.some.injEq, AV.i.injEq, AV.s.injEq, AV.bo.injEq, true_and, and_true, List.cons.injEq, List.length_cons, List.length_nil, and_assoc, exists_and_left, exists_eq_left', exists_eq_left, br_true, br_false, Nat.zero_add, Nat.add_zero, Nat.reduceAdd, Nat.reduceLeDiff, Nat.le_refl, numsOf_one, beq_self_eq_true, Int.reduceLE, Int.reduceLT, Int.reduceAdd, Int.reduceSub, Int.reduceMul, Int.reduceNeg, Int.reduceToNat, Int.reducePow, Int.reduceMod, Int.reduceDiv, Int.cast_ofNat_Int, Int.reduceBEq, i64w, decide_true, decide_false, Int.le_refl, Nat.min_def, reduceIte, Int.one_mul, bits64, Int.natCast_add, Bool.false_eq_true, wk_and, int_bne, decide_eq_true_eq]
  refine ⟨fun _ q => q = (0, 0), 0, rfl, fun s n h => ?_⟩
  subst h
  simp only [Int.reduceLT, if_false, Bool.false_eq_true, Int.reduceGT, decide_false]
  exact hR.flat (r := .bo false) rfl (by simp)
theorem run15 {l : List Ev} {off : Nat} {cap : Option Nat} {c : List AV} (hlen : l.length ≤ 9223372036854775807) (hw : (c.drop off).take (l.length * 3) = recs mkEv l) (hu : AV.unders 0 c = true)
    {R : AV → Hp → Prop} (hR : Done 1 (.bo (grE l), []) R) : Holds (wpFn P tnil noW (head15 (.sl 0 off l.length 3 cap) [.cells c false]) 1 Go.Proofs.Try.f15 [.sl 0 off l.length 3 cap] [.cells c false] R) := by
  have fin : ∀ b, b = grE l → R (.bo b) [.cells c false] := fun b e => by subst e; exact hR.flat rfl (by simp)
  refine ⟨?_⟩
  rw [vc15]
  simp only [↓br_ite, ↓reduceIte, holds_eq, List.getElem?_cons_zero, List.getElem?_cons_succ, Option.some.injEq, AV.i.injEq, AV.s.injEq, AV.bo.injEq, true_and, and_true, List.cons.injEq, List.length_cons, List.length_nil, and_assoc, exists_and_left, exists_eq_left', exists_eq_left, br_true, br_false, Nat.zero_add, Nat.add_zero, Nat.reduceAdd, Nat.reduceLeDiff, Nat.le_refl, numsOf_one, beq_self_eq_true, Int.reduceLE, Int.reduceLT, Int.reduceAdd, Int.reduceSub, Int.reduceMul, Int.reduceNeg, Int.reduceToNat, Int.reducePow, Int.reduceMod, Int.reduceDiv, Int.cast_ofNat_Int, Int.reduceBEq, i64w, decide_true, decide_false, Int.le_refl, Nat.min_def, reduceIte, Int.one_mul, bits64, Int.natCast_add, Bool.false_eq_true, wk_and, int_bne, decide_eq_true_eq]
  refine ⟨fun n q => ∃ i : Nat, q.2 = i ∧ i + n = l.length ∧ i ≤ 5001 ∧ q.1 = sumT (l.take i) ∧ 0 ≤ q.1 ∧ q.1 ≤ 600001 * i, l.length, ⟨0, rfl, by omega, by omega, rfl, by simp, by simp⟩, ?_⟩
  rintro ⟨t, a⟩ n ⟨i, h1, h2, h3, h4, h5, h6⟩
  simp only at h1 h4 h5 h6 ⊢
  subst h1
  by_cases hi : (i : Int) < l.length
  · rw [if_pos hi]
    have hi' : i < l.length := by omega
    by_cases hj : (i : Int) ≤ 5000
    · rw [if_pos hj]
      have e1 := recs_in mkEv_len hw rfl (List.getElem?_eq_getElem hi')
      have e2 : c[off + i * 3 + 2]? = some (.s l[i].2.2) := by
        have := congrArg (fun x => x[2]?) e1
        simp only [List.getElem?_take_of_lt (show 2 < 3 by decide), List.getElem?_drop] at this
        exact this
      refine ⟨by omega, hi, l[i].2.2, by rw [Int.toNat_natCast]; exact e2, n - 1, by omega, i + 1, ?_, by omega, by omega, ?_, ?_⟩
      · rw [i64w (by omega) (by omega)]; omega
      · rw [i64w (by split <;> omega) (by split <;> omega), ← List.take_append_getElem hi', sumT_snoc, h4]
      · rw [i64w (by split <;> omega) (by split <;> omega)]
        constructor <;> (split <;> omega)
    · rw [if_neg hj]
      rw [if_pos (by omega)]
      exact fin _ (by simp [grE]; omega)
  · rw [if_neg hi]
    have : i = l.length := by omega
    subst this
    rw [List.take_length] at h4
    by_cases g : (l.length : Int) > 5000
    · rw [if_pos g]
      exact fin _ (by simp [grE]; omega)
    · rw [if_neg g]
      refine fin _ ?_
      unfold grE
      rw [decide_eq_decide, h4]
      omega
end Go.Proofs.Ytnfbgfmdjaodgaa.ScriptRun
