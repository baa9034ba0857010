/- Lists of events are read; the same lists. -/
import Derived.Test.YtnfbgfmdjaodgaaScriptSpec
set_option linter.unusedVariables false
set_option linter.unusedSimpArgs false
open Go Go.Proofs.Ytnfbgfmdjaodgaa.Eng Go.RowKit
namespace Go.Proofs.Ytnfbgfmdjaodgaa.ScriptRun
abbrev outRd (k n : ByteArray → Int) (t : ByteArray → ByteArray) (a : ByteArray → Int) (b : ByteArray → Bool) : Out ByteArray := fun s K => K (.tu [.ag [.i .u8 (k s), .i .i64 (n s), .s (t s)], .i .i64 (a s), .bo (b s)]) []
abbrev outRd2 (k n : ByteArray × Int → Int) (t : ByteArray × Int → ByteArray) (a : ByteArray × Int → Int) (b : ByteArray × Int → Bool) : Out (ByteArray × Int) := fun s K => K (.tu [.ag [.i .u8 (k s), .i .i64 (n s), .s (t s)], .i .i64 (a s), .bo (b s)]) []
def unRd2 (args : List AV) : Option (ByteArray × Int) := match args with
  | [.s t, .i .i64 a] => some (t, a)
  | _ => none
def head11 (h : Hp) : Nat → Option Head := fun r => match r with
  | 3 => some (Head.two (nilAt 4) (Get.str 3) (fun q => ⟨bads 3 ++ [.s q, .sn] ++ bads 34, h⟩) (Get.and (Get.str 3) (Get.sl 4)) (fun q => ⟨bads 3 ++ [.s q.1, .sl h.length 0 q.2.1 3 none] ++ bads 34, h ++ [.cells q.2.2 true]⟩))
  | _ => none
def head13 : Nat → Option Head := fun r => match r with
  | 5 => some (Head.two (nilAt 3) (Get.and (Get.str 0) (Get.int 4)) (fun q => ⟨[.s q.1, .bad, .bad, .sn, .i .i64 q.2] ++ bads 33, []⟩) (Get.and (Get.str 0) (Get.and (Get.int 4) (Get.sl 3))) (fun q => ⟨[.s q.1, .bad, .bad, .sl 0 0 q.2.2.1 3 none, .i .i64 q.2.1] ++ bads 33, [.cells q.2.2.2 true]⟩))
  | 1003 => some (Head.one (Get.str 0) fun q => ⟨[.s q] ++ bads 37, []⟩)
  | _ => none
def head12 (a b : AV) (h : Hp) : Nat → Option Head := fun r => match r with
  | 4 => some (Head.one (Get.int 5) fun q => ⟨[a, b, .bad, .bad, .bad, .i .i64 q] ++ bads 20, h⟩)
  | _ => none
set_option maxRecDepth 1000000 in
theorem vc11n (k n : ByteArray → Int) (t : ByteArray → ByteArray) (a : ByteArray → Int) (b : ByteArray → Bool) (ok : ByteArray → Prop) (R : AV → Hp → Prop) : (wpFn P (tcons 19 (t0 unStr ok (outRd k n t a b)) tnil) noW (head11 []) 0 Go.Proofs.Try.f11 [.sn] [] R) = (Holds (((0 : Int) ≤ if (262144 : Int) < (0 : Int) then (262144 : Int) else (0 : Int)) ∧ (if (262144 : Int) < (0 : Int) then (262144 : Int) else (0 : Int)) ≤ (↑(0 : Nat) : Int)) ∧ Wk 0 { t := [.bad, .bad, .bad, AV.s ByteArray.empty, AV.sn, .bad, .bad, .bad, .bad, .bad, .bad, .bad, .bad, .bad, .bad, .bad, .bad, .bad, .bad, .bad, .bad, .bad, .bad, .bad, .bad, .bad, .bad, .bad, .bad, .bad, .bad, .bad, .bad, .bad, .bad, .bad, .bad, .bad, .bad], h := [] } { t := [.bad, .bad, .bad, AV.s ByteArray.empty, AV.sn, .bad, .bad, .bad, .bad, .bad, .bad, .bad, .bad, .bad, .bad, .bad, .bad, .bad, .bad, .bad, .bad, .bad, .bad, .bad, .bad, .bad, .bad, .bad, .bad, .bad, .bad, .bad, .bad, .bad, .bad, .bad, .bad, .bad, .bad], h := [] } ∧ ∃ (I : Nat → ByteArray ⊕ ByteArray × Nat × List AV → Prop), ∃ (n_1 : Nat), I n_1 (Sum.inl ByteArray.empty) ∧ (∀ (a_1 : ByteArray) (n_2 : Nat), I n_2 (Sum.inl a_1) → br (!ByteArray.toList a_1 == ByteArray.toList (⟨#[]⟩ : ByteArray)) (Holds (ok a_1) ∧ Holds (3 ≤ List.length [AV.i .u8 0, AV.i .i64 0, AV.s (⟨#[]⟩ : ByteArray)]) ∧ br (!b a_1) (Holds ((0 : Int) ≤ (1 : Int) ∧ (1 : Int) ≤ (↑(ByteArray.size a_1) : Int)) ∧ Wk 0 { t := [.bad, .bad, .bad, AV.s (ByteArray.extract a_1 (Int.toNat (1 : Int)) (ByteArray.size a_1)), AV.sn, .bad, .bad, .bad, .bad, .bad, .bad, .bad, .bad, .bad, .bad, .bad, .bad, .bad, .bad, .bad, .bad, .bad, .bad, .bad, .bad, .bad, .bad, .bad, .bad, .bad, .bad, .bad, .bad, .bad, .bad, .bad, .bad, .bad, .bad], h := [Blk.cells [AV.i .u8 (k a_1), AV.i .i64 (n a_1), AV.s (t a_1)] true] } { t := [.bad, .bad, .bad, AV.s (ByteArray.extract a_1 (Int.toNat (1 : Int)) (ByteArray.size a_1)), AV.sn, .bad, .bad, .bad, .bad, .bad, .bad, .bad, .bad, .bad, .bad, .bad, .bad, .bad, .bad, .bad, .bad, .bad, .bad, .bad, .bad, .bad, .bad, .bad, .bad, .bad, .bad, .bad, .bad, .bad, .bad, .bad, .bad, .bad, .bad], h := [] } ∧ ∃ (m : Nat), Holds (m < n_2) ∧ I m (Sum.inl (ByteArray.extract a_1 (Int.toNat (1 : Int)) (ByteArray.size a_1)))) (∃ (n_3 : Int), ∃ (n_4 : Int), ∃ (s : ByteArray), Holds ([AV.i .u8 (k a_1), AV.i .i64 (n a_1), AV.s (t a_1)] = [AV.i .u8 n_3, AV.i .i64 n_4, AV.s s]) ∧ Holds (3 ≤ List.length [AV.i .u8 n_3, AV.i .i64 n_4, AV.s s]) ∧ Holds (32 ≤ 140737488355328) ∧ Holds ((0 : Int) ≤ a a_1 ∧ a a_1 ≤ (↑(ByteArray.size a_1) : Int)) ∧ Wk 0 { t := [.bad, .bad, .bad, AV.s (ByteArray.extract a_1 (Int.toNat (a a_1)) (ByteArray.size a_1)), AV.sl 2 0 1 3 none, .bad, .bad, .bad, .bad, .bad, .bad, .bad, .bad, .bad, .bad, .bad, .bad, .bad, .bad, .bad, .bad, .bad, .bad, .bad, .bad, .bad, .bad, .bad, .bad, .bad, .bad, .bad, .bad, .bad, .bad, .bad, .bad, .bad, .bad], h := [Blk.cells [AV.i .u8 (k a_1), AV.i .i64 (n a_1), AV.s (t a_1)] true, Blk.cells [AV.i .u8 n_3, AV.i .i64 n_4, AV.s s] true, Blk.cells [AV.i .u8 n_3, AV.i .i64 n_4, AV.s s] true] } { t := [.bad, .bad, .bad, AV.s (ByteArray.extract a_1 (Int.toNat (a a_1)) (ByteArray.size a_1)), AV.sl 0 0 1 3 none, .bad, .bad, .bad, .bad, .bad, .bad, .bad, .bad, .bad, .bad, .bad, .bad, .bad, .bad, .bad, .bad, .bad, .bad, .bad, .bad, .bad, .bad, .bad, .bad, .bad, .bad, .bad, .bad, .bad, .bad, .bad, .bad, .bad, .bad], h := [Blk.cells [AV.i .u8 n_3, AV.i .i64 n_4, AV.s s] true] } ∧ ∃ (m : Nat), Holds (m < n_2) ∧ I m (Sum.inr (ByteArray.extract a_1 (Int.toNat (a a_1)) (ByteArray.size a_1), 1, [AV.i .u8 n_3, AV.i .i64 n_4, AV.s s])))) (R AV.sn [])) ∧ ∀ (b_1 : ByteArray × Nat × List AV) (n_2 : Nat), I n_2 (Sum.inr b_1) → br (!ByteArray.toList (Prod.fst b_1) == ByteArray.toList (⟨#[]⟩ : ByteArray)) (br (decide ((↑(Prod.fst (Prod.snd b_1)) : Int) < (4096 : Int))) (Holds (ok (Prod.fst b_1)) ∧ Holds (3 ≤ List.length [AV.i .u8 0, AV.i .i64 0, AV.s (⟨#[]⟩ : ByteArray)]) ∧ br (!b (Prod.fst b_1)) (Holds ((0 : Int) ≤ (1 : Int) ∧ (1 : Int) ≤ (↑(ByteArray.size (Prod.fst b_1)) : Int)) ∧ Wk 0 { t := [.bad, .bad, .bad, AV.s (ByteArray.extract (Prod.fst b_1) (Int.toNat (1 : Int)) (ByteArray.size (Prod.fst b_1))), AV.sl 0 0 (Prod.fst (Prod.snd b_1)) 3 none, .bad, .bad, .bad, .bad, .bad, .bad, .bad, .bad, .bad, .bad, .bad, .bad, .bad, .bad, .bad, .bad, .bad, .bad, .bad, .bad, .bad, .bad, .bad, .bad, .bad, .bad, .bad, .bad, .bad, .bad, .bad, .bad, .bad, .bad], h := [Blk.cells (Prod.snd (Prod.snd b_1)) true, Blk.cells [AV.i .u8 (k (Prod.fst b_1)), AV.i .i64 (n (Prod.fst b_1)), AV.s (t (Prod.fst b_1))] true] } { t := [.bad, .bad, .bad, AV.s (ByteArray.extract (Prod.fst b_1) (Int.toNat (1 : Int)) (ByteArray.size (Prod.fst b_1))), AV.sl 0 0 (Prod.snd b_1).1 3 none, .bad, .bad, .bad, .bad, .bad, .bad, .bad, .bad, .bad, .bad, .bad, .bad, .bad, .bad, .bad, .bad, .bad, .bad, .bad, .bad, .bad, .bad, .bad, .bad, .bad, .bad, .bad, .bad, .bad, .bad, .bad, .bad, .bad, .bad], h := [Blk.cells (Prod.snd b_1).2 true] } ∧ ∃ (m : Nat), Holds (m < n_2) ∧ I m (Sum.inr (ByteArray.extract (Prod.fst b_1) (Int.toNat (1 : Int)) (ByteArray.size (Prod.fst b_1)), Prod.fst (Prod.snd b_1), Prod.snd (Prod.snd b_1)))) (∃ (n_3 : Int), ∃ (n_4 : Int), ∃ (s : ByteArray), Holds ([AV.i .u8 (k (Prod.fst b_1)), AV.i .i64 (n (Prod.fst b_1)), AV.s (t (Prod.fst b_1))] = [AV.i .u8 n_3, AV.i .i64 n_4, AV.s s]) ∧ Holds (3 ≤ List.length [AV.i .u8 n_3, AV.i .i64 n_4, AV.s s]) ∧ Holds ((Prod.fst (Prod.snd b_1) + 1) * 32 ≤ 140737488355328) ∧ Holds (List.all [AV.i .u8 n_3, AV.i .i64 n_4, AV.s s] AV.one = true) ∧ Holds (0 + Prod.fst (Prod.snd b_1) * 3 = List.length (Prod.snd b_1).2) ∧ Holds ((0 : Int) ≤ a (Prod.fst b_1) ∧ a (Prod.fst b_1) ≤ (↑(ByteArray.size (Prod.fst b_1)) : Int)) ∧ Wk 0 { t := [.bad, .bad, .bad, AV.s (ByteArray.extract (Prod.fst b_1) (Int.toNat (a (Prod.fst b_1))) (ByteArray.size (Prod.fst b_1))), AV.sl 3 0 (Prod.fst (Prod.snd b_1) + 1) 3 none, .bad, .bad, .bad, .bad, .bad, .bad, .bad, .bad, .bad, .bad, .bad, .bad, .bad, .bad, .bad, .bad, .bad, .bad, .bad, .bad, .bad, .bad, .bad, .bad, .bad, .bad, .bad, .bad, .bad, .bad, .bad, .bad, .bad, .bad], h := [Blk.dead, Blk.cells [AV.i .u8 (k (Prod.fst b_1)), AV.i .i64 (n (Prod.fst b_1)), AV.s (t (Prod.fst b_1))] true, Blk.cells [AV.i .u8 n_3, AV.i .i64 n_4, AV.s s] true, Blk.cells ((Prod.snd b_1).2 ++ [AV.i .u8 n_3, AV.i .i64 n_4, AV.s s]) true] } { t := [.bad, .bad, .bad, AV.s (ByteArray.extract (Prod.fst b_1) (Int.toNat (a (Prod.fst b_1))) (ByteArray.size (Prod.fst b_1))), AV.sl 0 0 (Prod.fst (Prod.snd b_1) + 1) 3 none, .bad, .bad, .bad, .bad, .bad, .bad, .bad, .bad, .bad, .bad, .bad, .bad, .bad, .bad, .bad, .bad, .bad, .bad, .bad, .bad, .bad, .bad, .bad, .bad, .bad, .bad, .bad, .bad, .bad, .bad, .bad, .bad, .bad, .bad], h := [Blk.cells ((Prod.snd b_1).2 ++ [AV.i .u8 n_3, AV.i .i64 n_4, AV.s s]) true] } ∧ ∃ (m : Nat), Holds (m < n_2) ∧ I m (Sum.inr (ByteArray.extract (Prod.fst b_1) (Int.toNat (a (Prod.fst b_1))) (ByteArray.size (Prod.fst b_1)), Prod.fst (Prod.snd b_1) + 1, (Prod.snd b_1).2 ++ [AV.i .u8 n_3, AV.i .i64 n_4, AV.s s])))) (R (AV.sl 0 0 (Prod.fst (Prod.snd b_1)) 3 none) [Blk.cells (Prod.snd (Prod.snd b_1)) true])) (R (AV.sl 0 0 (Prod.fst (Prod.snd b_1)) 3 none) [Blk.cells (Prod.snd (Prod.snd b_1)) true])) := by kernel_rfl
set_option maxRecDepth 1000000 in
theorem vc11 (k n : ByteArray → Int) (t : ByteArray → ByteArray) (a : ByteArray → Int) (b : ByteArray → Bool) (ok : ByteArray → Prop) (off len : Nat) (cap : Option Nat) (c : List AV) (R : AV → Hp → Prop) : (wpFn P (tcons 19 (t0 unStr ok (outRd k n t a b)) tnil) noW (head11 [.cells c false]) 1 Go.Proofs.Try.f11 [.sl 0 off len 1 cap] [.cells c false] R) = (Holds (((0 : Int) ≤ if (262144 : Int) < (↑len : Int) then (262144 : Int) else (↑len : Int)) ∧ (if (262144 : Int) < (↑len : Int) then (262144 : Int) else (↑len : Int)) ≤ (↑(Option.getD cap len) : Int)) ∧ Holds (off + (Int.toNat (if (262144 : Int) < (↑len : Int) then (262144 : Int) else (↑len : Int)) - 0) ≤ List.length c) ∧ ∃ (l : List Int), Holds (numsOf (List.take (Int.toNat (if (262144 : Int) < (↑len : Int) then (262144 : Int) else (↑len : Int)) - 0) (List.drop off c)) = some l) ∧ Wk 1 { t := [.bad, .bad, .bad, AV.s (textOf l), AV.sn, .bad, .bad, .bad, .bad, .bad, .bad, .bad, .bad, .bad, .bad, .bad, .bad, .bad, .bad, .bad, .bad, .bad, .bad, .bad, .bad, .bad, .bad, .bad, .bad, .bad, .bad, .bad, .bad, .bad, .bad, .bad, .bad, .bad, .bad], h := [Blk.cells c false] } { t := [.bad, .bad, .bad, AV.s (textOf l), AV.sn, .bad, .bad, .bad, .bad, .bad, .bad, .bad, .bad, .bad, .bad, .bad, .bad, .bad, .bad, .bad, .bad, .bad, .bad, .bad, .bad, .bad, .bad, .bad, .bad, .bad, .bad, .bad, .bad, .bad, .bad, .bad, .bad, .bad, .bad], h := [Blk.cells c false] } ∧ ∃ (I : Nat → ByteArray ⊕ ByteArray × Nat × List AV → Prop), ∃ (n_1 : Nat), I n_1 (Sum.inl (textOf l)) ∧ (∀ (a_1 : ByteArray) (n_2 : Nat), I n_2 (Sum.inl a_1) → br (!ByteArray.toList a_1 == ByteArray.toList (⟨#[]⟩ : ByteArray)) (Holds (ok a_1) ∧ Holds (3 ≤ List.length [AV.i .u8 0, AV.i .i64 0, AV.s (⟨#[]⟩ : ByteArray)]) ∧ br (!b a_1) (Holds ((0 : Int) ≤ (1 : Int) ∧ (1 : Int) ≤ (↑(ByteArray.size a_1) : Int)) ∧ Wk 1 { t := [.bad, .bad, .bad, AV.s (ByteArray.extract a_1 (Int.toNat (1 : Int)) (ByteArray.size a_1)), AV.sn, .bad, .bad, .bad, .bad, .bad, .bad, .bad, .bad, .bad, .bad, .bad, .bad, .bad, .bad, .bad, .bad, .bad, .bad, .bad, .bad, .bad, .bad, .bad, .bad, .bad, .bad, .bad, .bad, .bad, .bad, .bad, .bad, .bad, .bad], h := [Blk.cells c false, Blk.cells [AV.i .u8 (k a_1), AV.i .i64 (n a_1), AV.s (t a_1)] true] } { t := [.bad, .bad, .bad, AV.s (ByteArray.extract a_1 (Int.toNat (1 : Int)) (ByteArray.size a_1)), AV.sn, .bad, .bad, .bad, .bad, .bad, .bad, .bad, .bad, .bad, .bad, .bad, .bad, .bad, .bad, .bad, .bad, .bad, .bad, .bad, .bad, .bad, .bad, .bad, .bad, .bad, .bad, .bad, .bad, .bad, .bad, .bad, .bad, .bad, .bad], h := [Blk.cells c false] } ∧ ∃ (m : Nat), Holds (m < n_2) ∧ I m (Sum.inl (ByteArray.extract a_1 (Int.toNat (1 : Int)) (ByteArray.size a_1)))) (∃ (n_3 : Int), ∃ (n_4 : Int), ∃ (s : ByteArray), Holds ([AV.i .u8 (k a_1), AV.i .i64 (n a_1), AV.s (t a_1)] = [AV.i .u8 n_3, AV.i .i64 n_4, AV.s s]) ∧ Holds (3 ≤ List.length [AV.i .u8 n_3, AV.i .i64 n_4, AV.s s]) ∧ Holds (32 ≤ 140737488355328) ∧ Holds ((0 : Int) ≤ a a_1 ∧ a a_1 ≤ (↑(ByteArray.size a_1) : Int)) ∧ Wk 1 { t := [.bad, .bad, .bad, AV.s (ByteArray.extract a_1 (Int.toNat (a a_1)) (ByteArray.size a_1)), AV.sl 3 0 1 3 none, .bad, .bad, .bad, .bad, .bad, .bad, .bad, .bad, .bad, .bad, .bad, .bad, .bad, .bad, .bad, .bad, .bad, .bad, .bad, .bad, .bad, .bad, .bad, .bad, .bad, .bad, .bad, .bad, .bad, .bad, .bad, .bad, .bad, .bad], h := [Blk.cells c false, Blk.cells [AV.i .u8 (k a_1), AV.i .i64 (n a_1), AV.s (t a_1)] true, Blk.cells [AV.i .u8 n_3, AV.i .i64 n_4, AV.s s] true, Blk.cells [AV.i .u8 n_3, AV.i .i64 n_4, AV.s s] true] } { t := [.bad, .bad, .bad, AV.s (ByteArray.extract a_1 (Int.toNat (a a_1)) (ByteArray.size a_1)), AV.sl 1 0 1 3 none, .bad, .bad, .bad, .bad, .bad, .bad, .bad, .bad, .bad, .bad, .bad, .bad, .bad, .bad, .bad, .bad, .bad, .bad, .bad, .bad, .bad, .bad, .bad, .bad, .bad, .bad, .bad, .bad, .bad, .bad, .bad, .bad, .bad, .bad], h := [Blk.cells c false, Blk.cells [AV.i .u8 n_3, AV.i .i64 n_4, AV.s s] true] } ∧ ∃ (m : Nat), Holds (m < n_2) ∧ I m (Sum.inr (ByteArray.extract a_1 (Int.toNat (a a_1)) (ByteArray.size a_1), 1, [AV.i .u8 n_3, AV.i .i64 n_4, AV.s s])))) (R AV.sn [Blk.cells c false])) ∧ ∀ (b_1 : ByteArray × Nat × List AV) (n_2 : Nat), I n_2 (Sum.inr b_1) → br (!ByteArray.toList (Prod.fst b_1) == ByteArray.toList (⟨#[]⟩ : ByteArray)) (br (decide ((↑(Prod.fst (Prod.snd b_1)) : Int) < (4096 : Int))) (Holds (ok (Prod.fst b_1)) ∧ Holds (3 ≤ List.length [AV.i .u8 0, AV.i .i64 0, AV.s (⟨#[]⟩ : ByteArray)]) ∧ br (!b (Prod.fst b_1)) (Holds ((0 : Int) ≤ (1 : Int) ∧ (1 : Int) ≤ (↑(ByteArray.size (Prod.fst b_1)) : Int)) ∧ Wk 1 { t := [.bad, .bad, .bad, AV.s (ByteArray.extract (Prod.fst b_1) (Int.toNat (1 : Int)) (ByteArray.size (Prod.fst b_1))), AV.sl 1 0 (Prod.fst (Prod.snd b_1)) 3 none, .bad, .bad, .bad, .bad, .bad, .bad, .bad, .bad, .bad, .bad, .bad, .bad, .bad, .bad, .bad, .bad, .bad, .bad, .bad, .bad, .bad, .bad, .bad, .bad, .bad, .bad, .bad, .bad, .bad, .bad, .bad, .bad, .bad, .bad], h := [Blk.cells c false, Blk.cells (Prod.snd (Prod.snd b_1)) true, Blk.cells [AV.i .u8 (k (Prod.fst b_1)), AV.i .i64 (n (Prod.fst b_1)), AV.s (t (Prod.fst b_1))] true] } { t := [.bad, .bad, .bad, AV.s (ByteArray.extract (Prod.fst b_1) (Int.toNat (1 : Int)) (ByteArray.size (Prod.fst b_1))), AV.sl 1 0 (Prod.snd b_1).1 3 none, .bad, .bad, .bad, .bad, .bad, .bad, .bad, .bad, .bad, .bad, .bad, .bad, .bad, .bad, .bad, .bad, .bad, .bad, .bad, .bad, .bad, .bad, .bad, .bad, .bad, .bad, .bad, .bad, .bad, .bad, .bad, .bad, .bad, .bad], h := [Blk.cells c false, Blk.cells (Prod.snd b_1).2 true] } ∧ ∃ (m : Nat), Holds (m < n_2) ∧ I m (Sum.inr (ByteArray.extract (Prod.fst b_1) (Int.toNat (1 : Int)) (ByteArray.size (Prod.fst b_1)), Prod.fst (Prod.snd b_1), Prod.snd (Prod.snd b_1)))) (∃ (n_3 : Int), ∃ (n_4 : Int), ∃ (s : ByteArray), Holds ([AV.i .u8 (k (Prod.fst b_1)), AV.i .i64 (n (Prod.fst b_1)), AV.s (t (Prod.fst b_1))] = [AV.i .u8 n_3, AV.i .i64 n_4, AV.s s]) ∧ Holds (3 ≤ List.length [AV.i .u8 n_3, AV.i .i64 n_4, AV.s s]) ∧ Holds ((Prod.fst (Prod.snd b_1) + 1) * 32 ≤ 140737488355328) ∧ Holds (List.all [AV.i .u8 n_3, AV.i .i64 n_4, AV.s s] AV.one = true) ∧ Holds (0 + Prod.fst (Prod.snd b_1) * 3 = List.length (Prod.snd b_1).2) ∧ Holds ((0 : Int) ≤ a (Prod.fst b_1) ∧ a (Prod.fst b_1) ≤ (↑(ByteArray.size (Prod.fst b_1)) : Int)) ∧ Wk 1 { t := [.bad, .bad, .bad, AV.s (ByteArray.extract (Prod.fst b_1) (Int.toNat (a (Prod.fst b_1))) (ByteArray.size (Prod.fst b_1))), AV.sl 4 0 (Prod.fst (Prod.snd b_1) + 1) 3 none, .bad, .bad, .bad, .bad, .bad, .bad, .bad, .bad, .bad, .bad, .bad, .bad, .bad, .bad, .bad, .bad, .bad, .bad, .bad, .bad, .bad, .bad, .bad, .bad, .bad, .bad, .bad, .bad, .bad, .bad, .bad, .bad, .bad, .bad], h := [Blk.cells c false, Blk.dead, Blk.cells [AV.i .u8 (k (Prod.fst b_1)), AV.i .i64 (n (Prod.fst b_1)), AV.s (t (Prod.fst b_1))] true, Blk.cells [AV.i .u8 n_3, AV.i .i64 n_4, AV.s s] true, Blk.cells ((Prod.snd b_1).2 ++ [AV.i .u8 n_3, AV.i .i64 n_4, AV.s s]) true] } { t := [.bad, .bad, .bad, AV.s (ByteArray.extract (Prod.fst b_1) (Int.toNat (a (Prod.fst b_1))) (ByteArray.size (Prod.fst b_1))), AV.sl 1 0 (Prod.fst (Prod.snd b_1) + 1) 3 none, .bad, .bad, .bad, .bad, .bad, .bad, .bad, .bad, .bad, .bad, .bad, .bad, .bad, .bad, .bad, .bad, .bad, .bad, .bad, .bad, .bad, .bad, .bad, .bad, .bad, .bad, .bad, .bad, .bad, .bad, .bad, .bad, .bad, .bad], h := [Blk.cells c false, Blk.cells ((Prod.snd b_1).2 ++ [AV.i .u8 n_3, AV.i .i64 n_4, AV.s s]) true] } ∧ ∃ (m : Nat), Holds (m < n_2) ∧ I m (Sum.inr (ByteArray.extract (Prod.fst b_1) (Int.toNat (a (Prod.fst b_1))) (ByteArray.size (Prod.fst b_1)), Prod.fst (Prod.snd b_1) + 1, (Prod.snd b_1).2 ++ [AV.i .u8 n_3, AV.i .i64 n_4, AV.s s])))) (R (AV.sl 1 0 (Prod.fst (Prod.snd b_1)) 3 none) [Blk.cells c false, Blk.cells (Prod.snd (Prod.snd b_1)) true])) (R (AV.sl 1 0 (Prod.fst (Prod.snd b_1)) 3 none) [Blk.cells c false, Blk.cells (Prod.snd (Prod.snd b_1)) true])) := by kernel_rfl
set_option maxRecDepth 1000000 in
theorem vc12 (off len : Nat) (cap : Option Nat) (c : List AV) (off' len' : Nat) (cap' : Option Nat) (c' : List AV) (R : AV → Hp → Prop) : (wpFn P tnil noW (head12 (.sl 0 off len 3 cap) (.sl 1 off' len' 3 cap') [.cells c false, .cells c' false]) 2 Go.Proofs.Try.f12 [.sl 0 off len 3 cap, .sl 1 off' len' 3 cap'] [.cells c false, .cells c' false] R) = (br ((↑len : Int) != (↑len' : Int)) (R (AV.bo false) [Blk.cells c false, Blk.cells c' false]) (Wk 2 { t := [AV.sl 0 off len 3 cap, AV.sl 1 off' len' 3 cap', .bad, .bad, .bad, AV.i .i64 0, .bad, .bad, .bad, .bad, .bad, .bad, .bad, .bad, .bad, .bad, .bad, .bad, .bad, .bad, .bad, .bad, .bad, .bad, .bad, .bad], h := [Blk.cells c false, Blk.cells c' false] } { t := [AV.sl 0 off len 3 cap, AV.sl 1 off' len' 3 cap', .bad, .bad, .bad, AV.i .i64 0, .bad, .bad, .bad, .bad, .bad, .bad, .bad, .bad, .bad, .bad, .bad, .bad, .bad, .bad, .bad, .bad, .bad, .bad, .bad, .bad], h := [Blk.cells c false, Blk.cells c' false] } ∧ ∃ (I : Nat → Int → Prop), ∃ (n : Nat), I n (0 : Int) ∧ ∀ (a : Int) (n : Nat), I n a → br (decide (a < (↑len : Int))) (Holds ((0 : Int) ≤ a ∧ a < (↑len : Int)) ∧ ∃ (n_1 : Int), ∃ (n_2 : Int), ∃ (s : ByteArray), Holds (List.take 3 (List.drop (off + Int.toNat a * 3) c) = [AV.i .u8 n_1, AV.i .i64 n_2, AV.s s]) ∧ Holds ((0 : Int) ≤ a ∧ a < (↑len' : Int)) ∧ ∃ (n_3 : Int), ∃ (n_4 : Int), ∃ (s_1 : ByteArray), Holds (List.take 3 (List.drop (off' + Int.toNat a * 3) c') = [AV.i .u8 n_3, AV.i .i64 n_4, AV.s s_1]) ∧ br (n_1 == n_3) (br (n_2 == n_4) (br (s == s_1) (Wk 2 { t := [AV.sl 0 off len 3 cap, AV.sl 1 off' len' 3 cap', .bad, .bad, .bad, AV.i .i64 (IntKind.wrap .i64 (a + (1 : Int))), .bad, .bad, .bad, .bad, .bad, .bad, .bad, .bad, .bad, .bad, .bad, .bad, .bad, .bad, .bad, .bad, .bad, .bad, .bad, .bad], h := [Blk.cells c false, Blk.cells c' false] } { t := [AV.sl 0 off len 3 cap, AV.sl 1 off' len' 3 cap', .bad, .bad, .bad, AV.i .i64 (IntKind.wrap .i64 (a + (1 : Int))), .bad, .bad, .bad, .bad, .bad, .bad, .bad, .bad, .bad, .bad, .bad, .bad, .bad, .bad, .bad, .bad, .bad, .bad, .bad, .bad], h := [Blk.cells c false, Blk.cells c' false] } ∧ ∃ (m : Nat), Holds (m < n) ∧ I m (IntKind.wrap .i64 (a + (1 : Int)))) (R (AV.bo false) [Blk.cells c false, Blk.cells c' false])) (R (AV.bo false) [Blk.cells c false, Blk.cells c' false])) (R (AV.bo false) [Blk.cells c false, Blk.cells c' false])) (R (AV.bo true) [Blk.cells c false, Blk.cells c' false]))) := by kernel_rfl
set_option maxRecDepth 1000000 in
theorem vc12_00 (R : AV → Hp → Prop) : (wpFn P tnil noW noL 0 Go.Proofs.Try.f12 [.sn, .sn] [] R) = (R (AV.bo true) []) := by kernel_rfl
set_option maxRecDepth 1000000 in
theorem vc12_10 (off len : Nat) (cap : Option Nat) (c : List AV) (R : AV → Hp → Prop) : (wpFn P tnil noW (head12 (.sl 0 off len 3 cap) .sn [.cells c false]) 1 Go.Proofs.Try.f12 [.sl 0 off len 3 cap, .sn] [.cells c false] R) = (br ((↑len : Int) != (0 : Int)) (R (AV.bo false) [Blk.cells c false]) (Wk 1 { t := [AV.sl 0 off len 3 cap, AV.sn, .bad, .bad, .bad, AV.i .i64 0, .bad, .bad, .bad, .bad, .bad, .bad, .bad, .bad, .bad, .bad, .bad, .bad, .bad, .bad, .bad, .bad, .bad, .bad, .bad, .bad], h := [Blk.cells c false] } { t := [AV.sl 0 off len 3 cap, AV.sn, .bad, .bad, .bad, AV.i .i64 0, .bad, .bad, .bad, .bad, .bad, .bad, .bad, .bad, .bad, .bad, .bad, .bad, .bad, .bad, .bad, .bad, .bad, .bad, .bad, .bad], h := [Blk.cells c false] } ∧ ∃ (I : Nat → Int → Prop), ∃ (n : Nat), I n (0 : Int) ∧ ∀ (a : Int) (n : Nat), I n a → br (decide (a < (↑len : Int))) (Holds ((0 : Int) ≤ a ∧ a < (↑len : Int)) ∧ ∃ (n : Int), ∃ (n_1 : Int), ∃ (s : ByteArray), Holds (List.take 3 (List.drop (off + Int.toNat a * 3) c) = [AV.i .u8 n, AV.i .i64 n_1, AV.s s]) ∧ False) (R (AV.bo true) [Blk.cells c false]))) := by kernel_rfl
set_option maxRecDepth 1000000 in
theorem vc12_01 (off len : Nat) (cap : Option Nat) (c : List AV) (R : AV → Hp → Prop) : (wpFn P tnil noW (head12 .sn (.sl 0 off len 3 cap) [.cells c false]) 1 Go.Proofs.Try.f12 [.sn, .sl 0 off len 3 cap] [.cells c false] R) = (br ((0 : Int) != (↑len : Int)) (R (AV.bo false) [Blk.cells c false]) (Wk 1 { t := [AV.sn, AV.sl 0 off len 3 cap, .bad, .bad, .bad, AV.i .i64 0, .bad, .bad, .bad, .bad, .bad, .bad, .bad, .bad, .bad, .bad, .bad, .bad, .bad, .bad, .bad, .bad, .bad, .bad, .bad, .bad], h := [Blk.cells c false] } { t := [AV.sn, AV.sl 0 off len 3 cap, .bad, .bad, .bad, AV.i .i64 0, .bad, .bad, .bad, .bad, .bad, .bad, .bad, .bad, .bad, .bad, .bad, .bad, .bad, .bad, .bad, .bad, .bad, .bad, .bad, .bad], h := [Blk.cells c false] } ∧ ∃ (I : Nat → Int → Prop), ∃ (n : Nat), I n (0 : Int) ∧ ∀ (a : Int) (n : Nat), I n a → br (decide (a < (0 : Int))) False (R (AV.bo true) [Blk.cells c false]))) := by kernel_rfl
set_option maxRecDepth 1000000 in
theorem vc13 (k n : ByteArray × Int → Int) (t : ByteArray × Int → ByteArray) (a : ByteArray × Int → Int) (b : ByteArray × Int → Bool) (ok : ByteArray × Int → Prop) (s : ByteArray) (R : AV → Hp → Prop) : (wpFn P (tcons 20 (t0 unRd2 ok (outRd2 k n t a b)) tnil) noW head13 0 Go.Proofs.Try.f13 [.s s] [] R) = (∃ (J : ByteArray → Prop), br (decide ((↑(ByteArray.size s) : Int) > (262144 : Int))) (Holds ((0 : Int) ≤ (262144 : Int) ∧ (262144 : Int) ≤ (↑(ByteArray.size s) : Int)) ∧ Wk 0 { t := [AV.s (ByteArray.extract s 0 (Int.toNat (262144 : Int))), .bad, .bad, .bad, .bad, .bad, .bad, .bad, .bad, .bad, .bad, .bad, .bad, .bad, .bad, .bad, .bad, .bad, .bad, .bad, .bad, .bad, .bad, .bad, .bad, .bad, .bad, .bad, .bad, .bad, .bad, .bad, .bad, .bad, .bad, .bad, .bad, .bad], h := [] } { t := [AV.s (ByteArray.extract s 0 (Int.toNat (262144 : Int))), .bad, .bad, .bad, .bad, .bad, .bad, .bad, .bad, .bad, .bad, .bad, .bad, .bad, .bad, .bad, .bad, .bad, .bad, .bad, .bad, .bad, .bad, .bad, .bad, .bad, .bad, .bad, .bad, .bad, .bad, .bad, .bad, .bad, .bad, .bad, .bad, .bad], h := [] } ∧ J (ByteArray.extract s 0 (Int.toNat (262144 : Int)))) (Wk 0 { t := [AV.s s, .bad, .bad, .bad, .bad, .bad, .bad, .bad, .bad, .bad, .bad, .bad, .bad, .bad, .bad, .bad, .bad, .bad, .bad, .bad, .bad, .bad, .bad, .bad, .bad, .bad, .bad, .bad, .bad, .bad, .bad, .bad, .bad, .bad, .bad, .bad, .bad, .bad], h := [] } { t := [AV.s s, .bad, .bad, .bad, .bad, .bad, .bad, .bad, .bad, .bad, .bad, .bad, .bad, .bad, .bad, .bad, .bad, .bad, .bad, .bad, .bad, .bad, .bad, .bad, .bad, .bad, .bad, .bad, .bad, .bad, .bad, .bad, .bad, .bad, .bad, .bad, .bad, .bad], h := [] } ∧ J s) ∧ ∀ (a_1 : ByteArray), J a_1 → Wk 0 { t := [AV.s a_1, .bad, .bad, AV.sn, AV.i .i64 0, .bad, .bad, .bad, .bad, .bad, .bad, .bad, .bad, .bad, .bad, .bad, .bad, .bad, .bad, .bad, .bad, .bad, .bad, .bad, .bad, .bad, .bad, .bad, .bad, .bad, .bad, .bad, .bad, .bad, .bad, .bad, .bad, .bad], h := [] } { t := [AV.s a_1, .bad, .bad, AV.sn, AV.i .i64 0, .bad, .bad, .bad, .bad, .bad, .bad, .bad, .bad, .bad, .bad, .bad, .bad, .bad, .bad, .bad, .bad, .bad, .bad, .bad, .bad, .bad, .bad, .bad, .bad, .bad, .bad, .bad, .bad, .bad, .bad, .bad, .bad, .bad], h := [] } ∧ ∃ (I : Nat → ByteArray × Int ⊕ ByteArray × Int × Nat × List AV → Prop), ∃ (n_1 : Nat), I n_1 (Sum.inl (a_1, (0 : Int))) ∧ (∀ (a_3 : ByteArray × Int) (n_2 : Nat), I n_2 (Sum.inl a_3) → br (decide (Prod.snd a_3 < (↑(ByteArray.size (Prod.fst a_3)) : Int))) (Holds (ok (Prod.fst a_3, Prod.snd a_3)) ∧ Holds (3 ≤ List.length [AV.i .u8 0, AV.i .i64 0, AV.s (⟨#[]⟩ : ByteArray)]) ∧ br (b (Prod.fst a_3, Prod.snd a_3)) (∃ (n_3 : Int), ∃ (n_4 : Int), ∃ (s : ByteArray), Holds ([AV.i .u8 (k (Prod.fst a_3, Prod.snd a_3)), AV.i .i64 (n (Prod.fst a_3, Prod.snd a_3)), AV.s (t (Prod.fst a_3, Prod.snd a_3))] = [AV.i .u8 n_3, AV.i .i64 n_4, AV.s s]) ∧ Holds (3 ≤ List.length [AV.i .u8 n_3, AV.i .i64 n_4, AV.s s]) ∧ Holds (32 ≤ 140737488355328) ∧ Wk 0 { t := [AV.s (Prod.fst a_3), .bad, .bad, AV.sl 2 0 1 3 none, AV.i .i64 (a (Prod.fst a_3, Prod.snd a_3)), .bad, .bad, .bad, .bad, .bad, .bad, .bad, .bad, .bad, .bad, .bad, .bad, .bad, .bad, .bad, .bad, .bad, .bad, .bad, .bad, .bad, .bad, .bad, .bad, .bad, .bad, .bad, .bad, .bad, .bad, .bad, .bad, .bad], h := [Blk.cells [AV.i .u8 (k (Prod.fst a_3, Prod.snd a_3)), AV.i .i64 (n (Prod.fst a_3, Prod.snd a_3)), AV.s (t (Prod.fst a_3, Prod.snd a_3))] true, Blk.cells [AV.i .u8 n_3, AV.i .i64 n_4, AV.s s] true, Blk.cells [AV.i .u8 n_3, AV.i .i64 n_4, AV.s s] true] } { t := [AV.s a_3.1, .bad, .bad, AV.sl 0 0 1 3 none, AV.i .i64 (a (Prod.fst a_3, Prod.snd a_3)), .bad, .bad, .bad, .bad, .bad, .bad, .bad, .bad, .bad, .bad, .bad, .bad, .bad, .bad, .bad, .bad, .bad, .bad, .bad, .bad, .bad, .bad, .bad, .bad, .bad, .bad, .bad, .bad, .bad, .bad, .bad, .bad, .bad], h := [Blk.cells [AV.i .u8 n_3, AV.i .i64 n_4, AV.s s] true] } ∧ ∃ (m : Nat), Holds (m < n_2) ∧ I m (Sum.inr (Prod.fst a_3, a (Prod.fst a_3, Prod.snd a_3), 1, [AV.i .u8 n_3, AV.i .i64 n_4, AV.s s]))) (Wk 0 { t := [AV.s (Prod.fst a_3), .bad, .bad, AV.sn, AV.i .i64 (IntKind.wrap .i64 (Prod.snd a_3 + (1 : Int))), .bad, .bad, .bad, .bad, .bad, .bad, .bad, .bad, .bad, .bad, .bad, .bad, .bad, .bad, .bad, .bad, .bad, .bad, .bad, .bad, .bad, .bad, .bad, .bad, .bad, .bad, .bad, .bad, .bad, .bad, .bad, .bad, .bad], h := [Blk.cells [AV.i .u8 (k (Prod.fst a_3, Prod.snd a_3)), AV.i .i64 (n (Prod.fst a_3, Prod.snd a_3)), AV.s (t (Prod.fst a_3, Prod.snd a_3))] true] } { t := [AV.s a_3.1, .bad, .bad, AV.sn, AV.i .i64 (IntKind.wrap .i64 (Prod.snd a_3 + (1 : Int))), .bad, .bad, .bad, .bad, .bad, .bad, .bad, .bad, .bad, .bad, .bad, .bad, .bad, .bad, .bad, .bad, .bad, .bad, .bad, .bad, .bad, .bad, .bad, .bad, .bad, .bad, .bad, .bad, .bad, .bad, .bad, .bad, .bad], h := [] } ∧ ∃ (m : Nat), Holds (m < n_2) ∧ I m (Sum.inl (Prod.fst a_3, IntKind.wrap .i64 (Prod.snd a_3 + (1 : Int)))))) (R AV.sn [])) ∧ ∀ (b_1 : ByteArray × Int × Nat × List AV) (n_2 : Nat), I n_2 (Sum.inr b_1) → br (decide (Prod.fst (Prod.snd b_1) < (↑(ByteArray.size (Prod.fst b_1)) : Int))) (br (decide ((↑(Prod.fst (Prod.snd (Prod.snd b_1))) : Int) < (4096 : Int))) (Holds (ok (Prod.fst b_1, Prod.fst (Prod.snd b_1))) ∧ Holds (3 ≤ List.length [AV.i .u8 0, AV.i .i64 0, AV.s (⟨#[]⟩ : ByteArray)]) ∧ br (b (Prod.fst b_1, Prod.fst (Prod.snd b_1))) (∃ (n_3 : Int), ∃ (n_4 : Int), ∃ (s : ByteArray), Holds ([AV.i .u8 (k (Prod.fst b_1, Prod.fst (Prod.snd b_1))), AV.i .i64 (n (Prod.fst b_1, Prod.fst (Prod.snd b_1))), AV.s (t (Prod.fst b_1, Prod.fst (Prod.snd b_1)))] = [AV.i .u8 n_3, AV.i .i64 n_4, AV.s s]) ∧ Holds (3 ≤ List.length [AV.i .u8 n_3, AV.i .i64 n_4, AV.s s]) ∧ Holds ((Prod.fst (Prod.snd (Prod.snd b_1)) + 1) * 32 ≤ 140737488355328) ∧ Holds (List.all [AV.i .u8 n_3, AV.i .i64 n_4, AV.s s] AV.one = true) ∧ Holds (0 + Prod.fst (Prod.snd (Prod.snd b_1)) * 3 = List.length (Prod.snd (Prod.snd b_1)).2) ∧ Wk 0 { t := [AV.s (Prod.fst b_1), .bad, .bad, AV.sl 3 0 (Prod.fst (Prod.snd (Prod.snd b_1)) + 1) 3 none, AV.i .i64 (a (Prod.fst b_1, Prod.fst (Prod.snd b_1))), .bad, .bad, .bad, .bad, .bad, .bad, .bad, .bad, .bad, .bad, .bad, .bad, .bad, .bad, .bad, .bad, .bad, .bad, .bad, .bad, .bad, .bad, .bad, .bad, .bad, .bad, .bad, .bad, .bad, .bad, .bad, .bad, .bad], h := [Blk.dead, Blk.cells [AV.i .u8 (k (Prod.fst b_1, Prod.fst (Prod.snd b_1))), AV.i .i64 (n (Prod.fst b_1, Prod.fst (Prod.snd b_1))), AV.s (t (Prod.fst b_1, Prod.fst (Prod.snd b_1)))] true, Blk.cells [AV.i .u8 n_3, AV.i .i64 n_4, AV.s s] true, Blk.cells ((Prod.snd (Prod.snd b_1)).2 ++ [AV.i .u8 n_3, AV.i .i64 n_4, AV.s s]) true] } { t := [AV.s b_1.1, .bad, .bad, AV.sl 0 0 (Prod.fst (Prod.snd (Prod.snd b_1)) + 1) 3 none, AV.i .i64 (a (Prod.fst b_1, Prod.fst (Prod.snd b_1))), .bad, .bad, .bad, .bad, .bad, .bad, .bad, .bad, .bad, .bad, .bad, .bad, .bad, .bad, .bad, .bad, .bad, .bad, .bad, .bad, .bad, .bad, .bad, .bad, .bad, .bad, .bad, .bad, .bad, .bad, .bad, .bad, .bad], h := [Blk.cells ((Prod.snd (Prod.snd b_1)).2 ++ [AV.i .u8 n_3, AV.i .i64 n_4, AV.s s]) true] } ∧ ∃ (m : Nat), Holds (m < n_2) ∧ I m (Sum.inr (Prod.fst b_1, a (Prod.fst b_1, Prod.fst (Prod.snd b_1)), Prod.fst (Prod.snd (Prod.snd b_1)) + 1, (Prod.snd (Prod.snd b_1)).2 ++ [AV.i .u8 n_3, AV.i .i64 n_4, AV.s s]))) (Wk 0 { t := [AV.s (Prod.fst b_1), .bad, .bad, AV.sl 0 0 (Prod.fst (Prod.snd (Prod.snd b_1))) 3 none, AV.i .i64 (IntKind.wrap .i64 (Prod.fst (Prod.snd b_1) + (1 : Int))), .bad, .bad, .bad, .bad, .bad, .bad, .bad, .bad, .bad, .bad, .bad, .bad, .bad, .bad, .bad, .bad, .bad, .bad, .bad, .bad, .bad, .bad, .bad, .bad, .bad, .bad, .bad, .bad, .bad, .bad, .bad, .bad, .bad], h := [Blk.cells (Prod.snd (Prod.snd (Prod.snd b_1))) true, Blk.cells [AV.i .u8 (k (Prod.fst b_1, Prod.fst (Prod.snd b_1))), AV.i .i64 (n (Prod.fst b_1, Prod.fst (Prod.snd b_1))), AV.s (t (Prod.fst b_1, Prod.fst (Prod.snd b_1)))] true] } { t := [AV.s b_1.1, .bad, .bad, AV.sl 0 0 (Prod.snd (Prod.snd b_1)).1 3 none, AV.i .i64 (IntKind.wrap .i64 (Prod.fst (Prod.snd b_1) + (1 : Int))), .bad, .bad, .bad, .bad, .bad, .bad, .bad, .bad, .bad, .bad, .bad, .bad, .bad, .bad, .bad, .bad, .bad, .bad, .bad, .bad, .bad, .bad, .bad, .bad, .bad, .bad, .bad, .bad, .bad, .bad, .bad, .bad, .bad], h := [Blk.cells (Prod.snd (Prod.snd b_1)).2 true] } ∧ ∃ (m : Nat), Holds (m < n_2) ∧ I m (Sum.inr (Prod.fst b_1, IntKind.wrap .i64 (Prod.fst (Prod.snd b_1) + (1 : Int)), Prod.fst (Prod.snd (Prod.snd b_1)), Prod.snd (Prod.snd (Prod.snd b_1)))))) (R (AV.sl 0 0 (Prod.fst (Prod.snd (Prod.snd b_1))) 3 none) [Blk.cells (Prod.snd (Prod.snd (Prod.snd b_1))) true])) (R (AV.sl 0 0 (Prod.fst (Prod.snd (Prod.snd b_1))) 3 none) [Blk.cells (Prod.snd (Prod.snd (Prod.snd b_1))) true])) := by kernel_rfl
def mkB (b : UInt8) : List AV := [.i .u8 (b.toNat : Int)]
theorem mkB_len (b : UInt8) : (mkB b).length = 1 := rfl
theorem mkB_u (b : UInt8) : AV.unders 0 (mkB b) = true := rfl
theorem mkB_inj (x y : UInt8) (h : mkB x = mkB y) : x = y := by
  simp only [mkB, List.cons.injEq, AV.i.injEq, true_and, and_true] at h
  exact UInt8.toNat_inj.1 (by omega)
theorem mkEv_len (e : Ev) : (mkEv e).length = 3 := rfl
theorem mkEv_u (e : Ev) : AV.unders 0 (mkEv e) = true := rfl
theorem mkEv_inj (x y : Ev) (h : mkEv x = mkEv y) : x = y := by
  obtain ⟨a, b, c⟩ := x
  obtain ⟨a', b', c'⟩ := y
  simp only [mkEv, List.cons.injEq, AV.i.injEq, AV.s.injEq, true_and, and_true] at h
  obtain ⟨rfl, rfl, rfl⟩ := h
  rfl
theorem numsOf_bytes : ∀ (l : List UInt8), numsOf (recs mkB l) = some (l.map fun b => (b.toNat : Int))
  | [] => rfl
  | b :: l => by simp only [recs, mkB, List.cons_append, List.nil_append, numsOf, numsOf_bytes l, Option.map_some, List.map_cons]
theorem textOf_bytes (l : List UInt8) : textOf (l.map fun b => (b.toNat : Int)) = ofL l := by
  apply ba_ext
  rw [textOf_list, ofL_list, List.map_map]
  conv => rhs; rw [← List.map_id l]
  apply List.map_congr_left
  intro b _
  simp
theorem extract_tail (s : ByteArray) (i : Nat) : (s.extract i s.size).data.toList = s.data.toList.drop i := by
  rw [extract_list, List.take_of_length_le (by rw [size_list]; exact Nat.le_refl _)]
theorem ne_list {s : ByteArray} (h : s ≠ ⟨#[]⟩) : s.data.toList ≠ [] := fun e => h (ba_ext e)
theorem size_pos {s : ByteArray} (h : s ≠ ⟨#[]⟩) : 0 < s.size := by rw [← size_list]; exact List.length_pos_iff.2 (ne_list h)
theorem step_no {s : ByteArray} {m : Nat} (hs : s ≠ ⟨#[]⟩) (hm : m ≠ 0) (h : (rdP s).2.2 = false) : dec1 s.data.toList m = dec1 (s.extract 1 s.size).data.toList m := by
  rw [dec1_step (ne_list hs) hm, ← rdP_pe, mayb, h, extract_tail]; rfl
theorem step_yes {s : ByteArray} {m : Nat} (hs : s ≠ ⟨#[]⟩) (hm : m ≠ 0) (h : (rdP s).2.2 = true) : 0 < (rdP s).2.1 ∧ (rdP s).2.1 ≤ s.size ∧ dec1 s.data.toList m = (rdP s).1 :: dec1 (s.extract (rdP s).2.1.toNat s.size).data.toList (m - 1) := by
  have e : pe s.data.toList = some ((rdP s).1, ((rdP s).2.1 - 0).toNat) := by rw [← rdP_pe, mayb, if_pos h]
  have hp := pe_pos e
  rw [size_list] at hp
  refine ⟨by omega, by omega, ?_⟩
  rw [dec1_step (ne_list hs) hm, e, extract_tail, Int.sub_zero]
theorem extract_size (s : ByteArray) (i : Nat) : (s.extract i s.size).size = s.size - i := by rw [← size_list, extract_tail, List.length_drop, size_list]
theorem snoc_dec {es : List Ev} {l l' : List UInt8} {m : Nat} {e : Ev} {T : List Ev} (h : es ++ dec1 l m = T) (h' : dec1 l m = e :: dec1 l' (m - 1)) : (es ++ [e]) ++ dec1 l' (m - 1) = T := by
  rw [List.append_assoc, List.singleton_append, ← h', h]
theorem recs_snoc {α : Type} {mk : α → List AV} (es : List α) (e : α) : recs mk es ++ mk e = recs mk (es ++ [e]) := by rw [recs_append, recs_one]
abbrev Tdec : TEnv := tcons 19 (t0 unStr okS (outRd (fun s => (rdP s).1.1) (fun s => (rdP s).1.2.1) (fun s => (rdP s).1.2.2) (fun s => (rdP s).2.1) (fun s => (rdP s).2.2))) tnil
def okB (l : List UInt8) : Prop := l.length ≤ 1099511627776
theorem run11n {R : AV → Hp → Prop} (hR : Done 0 (resL 3 mkEv (decode [])) R) : Holds (wpFn P Tdec noW (head11 []) 0 Go.Proofs.Try.f11 [.sn] [] R) := by
  refine ⟨?_⟩
  rw [vc11n]
  simp only [↓br_ite, ↓reduceIte, holds_eq, List.getElem?_cons_zero, List.getElem?_cons_succ, Option.some.injEq, AV.i.injEq, AV.s.injEq, AV.bo.injEq, true_and, and_true, List.cons.injEq, List.length_cons, List.length_nil, and_assoc, exists_and_left, exists_eq_left', exists_eq_left, br_true, br_false, Nat.zero_add, Nat.add_zero, Nat.reduceAdd, Nat.reduceLeDiff, Nat.le_refl, numsOf_one, beq_self_eq_true, Int.reduceLE, Int.reduceLT, Int.reduceAdd, Int.reduceSub, Int.reduceMul, Int.reduceNeg, Int.reduceToNat, Int.reducePow, Int.reduceMod, Int.reduceDiv, Int.cast_ofNat_Int, Int.reduceBEq, i64w, decide_true, decide_false, Int.le_refl, Nat.min_def, reduceIte, Int.one_mul, bits64, Int.natCast_add, Bool.false_eq_true, wk_and, list_beq]
  refine ⟨fun _ q => q = Sum.inl ⟨#[]⟩, 0, rfl, fun s n h => ?_, fun s n h => (by cases h)⟩
  cases h
  simp only [decide_true, Bool.not_true, Bool.false_eq_true, if_false]
  exact hR.listNil rfl (Nat.zero_le _)
/-- What the loop knows: what is left to be read, and what has been. -/
def Idec (T : List Ev) (n : Nat) (q : ByteArray ⊕ ByteArray × Nat × List AV) : Prop := match q with
  | .inl s => n = s.size ∧ dec1 s.data.toList 4096 = T ∧ s.size ≤ 262144
  | .inr q => ∃ es : List Ev, n = q.1.size ∧ q.2.1 = es.length ∧ es ≠ [] ∧ q.2.2 = recs mkEv es ∧ es ++ dec1 q.1.data.toList (4096 - es.length) = T ∧ es.length ≤ 4096 ∧ q.1.size ≤ 262144
set_option maxRecDepth 20000 in
theorem run11 {l : List UInt8} {off : Nat} {cap : Option Nat} {c : List AV} (hok : okB l) (hw : (c.drop off).take (l.length * 1) = recs mkB l) (hcap : l.length ≤ cap.getD l.length) (hin : off + l.length * 1 ≤ c.length) (hu : AV.unders 0 c = true)
    {R : AV → Hp → Prop} (hR : Done 1 (resL 3 mkEv (decode l)) R) : Holds (wpFn P Tdec noW (head11 [.cells c false]) 1 Go.Proofs.Try.f11 [.sl 0 off l.length 1 cap] [.cells c false] R) := by
  obtain ⟨m, hm1, hm2, hm3⟩ : ∃ m : Nat, m = min l.length 262144 ∧ m ≤ l.length ∧ m ≤ 262144 := ⟨_, rfl, by omega, by omega⟩
  have hm : (if 262144 < (l.length : Int) then 262144 else (l.length : Int)) = (m : Int) := by split <;> omega
  have ht : (c.drop off).take m = recs mkB (l.take 262144) := by
    have h1 := recs_take mkB_len 262144 l
    rw [Nat.mul_one] at h1 hw
    rw [hm1, Nat.min_comm, ← List.take_take, hw, h1]
  refine ⟨?_⟩
  rw [vc11]
  simp only [↓br_ite, ↓reduceIte, holds_eq, List.getElem?_cons_zero, List.getElem?_cons_succ, Option.some.injEq, AV.i.injEq, AV.s.injEq, AV.bo.injEq, true_and, and_true, List.cons.injEq, List.length_cons, List.length_nil, and_assoc, exists_and_left, exists_eq_left', exists_eq_left, br_true, br_false, Nat.zero_add, Nat.add_zero, Nat.reduceAdd, Nat.reduceLeDiff, Nat.le_refl, numsOf_one, beq_self_eq_true, Int.reduceLE, Int.reduceLT, Int.reduceAdd, Int.reduceSub, Int.reduceMul, Int.reduceNeg, Int.reduceToNat, Int.reducePow, Int.reduceMod, Int.reduceDiv, Int.cast_ofNat_Int, Int.reduceBEq, i64w, decide_true, decide_false, Int.le_refl, Nat.min_def, reduceIte, Int.one_mul, bits64, Int.natCast_add, Bool.false_eq_true, wk_and, list_beq, hm, Int.toNat_natCast, Nat.sub_zero, ht, numsOf_bytes, textOf_bytes]
  refine ⟨by omega, by omega, by omega, Idec (decode l), (ofL (l.take 262144)).size, ⟨rfl, by rw [ofL_list]; rfl, by rw [ofL_size, List.length_take]; omega⟩, ?_, ?_⟩
  · rintro s n ⟨rfl, hT, hsz⟩
    by_cases he : s = ⟨#[]⟩
    · simp only [he, decide_true, Bool.not_true, Bool.false_eq_true, if_false]
      refine hR.listNil ?_ (by simp)
      rw [← hT, he]; rfl
    simp only [he, decide_false, Bool.not_false, if_true]
    refine ⟨⟨he, by omega⟩, ?_⟩
    have hp := size_pos he
    cases hb : (rdP s).2.2 with
    | false =>
      simp only [Bool.not_false, if_true]
      refine ⟨by omega, Wk.rows [0] (by decide) rfl rfl (gcR_one rfl hu) rfl, s.size - 1, by omega, ?_⟩
      exact ⟨by rw [extract_size], by rw [← hT, step_no he (by decide) hb], by rw [extract_size]; omega⟩
    | true =>
      simp only [Bool.not_true, Bool.false_eq_true, if_false]
      obtain ⟨h1, h2, h3⟩ := step_yes (m := 4096) he (by decide) hb
      refine ⟨by omega, h2, Wk.rows [0, 3] (by decide) rfl rfl (gcR_two rfl hu rfl rfl) rfl, s.size - (rdP s).2.1.toNat, by omega, ?_⟩
      exact ⟨[(rdP s).1], by rw [extract_size], rfl, by simp, by rw [recs_one]; rfl, by rw [← hT, h3]; rfl, by simp, by rw [extract_size]; omega⟩
  · rintro ⟨s, len, cells⟩ n ⟨es, rfl, hl, hne, hc, hT, hes, hsz⟩
    simp only at hl hc hT hsz ⊢
    subst hl hc
    by_cases he : s = ⟨#[]⟩
    · simp only [he, decide_true, Bool.not_true, Bool.false_eq_true, if_false]
      have hE : es = decode l := by rw [← hT, he]; exact (List.append_nil _).symm
      exact hR.listRow mkEv_u (hE ▸ hne) (by rw [← hE]) (by rw [← hE]; rfl) (by decide)
    simp only [he, decide_false, Bool.not_false, if_true]
    have hp := size_pos he
    have hp2 : es.length ≤ 4096 := hes
    refine Or.elim (Nat.lt_or_ge es.length 4096) (fun hlt0 => ?_) (fun hlt0 => ?_)
    · have hlt : (es.length : Int) < 4096 := by omega
      simp only [hlt, decide_true, if_true]
      refine ⟨⟨he, by omega⟩, ?_⟩
      cases hb : (rdP s).2.2 with
      | false =>
        simp only [Bool.not_false, if_true]
        refine ⟨by omega, Wk.rows [0, 1] (by decide) rfl rfl (gcR_two rfl hu rfl (recs_unders mkEv_u _)) rfl, s.size - 1, by omega, ?_⟩
        exact ⟨es, by rw [extract_size], rfl, hne, rfl, by rw [← hT, step_no he (by omega) hb], hes, by rw [extract_size]; omega⟩
      | true =>
        simp only [Bool.not_true, Bool.false_eq_true, if_false]
        obtain ⟨h1, h2, h3⟩ := step_yes (m := 4096 - es.length) he (by omega) hb
        refine ⟨by omega, rfl, by rw [recs_length mkEv_len], by omega, h2, Wk.rows [0, 4] (by decide) rfl rfl (gcR_two rfl hu rfl (by rw [unders_append, recs_unders mkEv_u]; rfl)) rfl, s.size - (rdP s).2.1.toNat, by omega, ?_⟩
        refine ⟨es ++ [(rdP s).1], by rw [extract_size], by simp, by simp, by rw [← recs_snoc]; rfl, ?_, by simp; omega, by rw [extract_size]; omega⟩
        have := snoc_dec hT h3
        rw [← this, List.length_append]
        congr 2
    · have hlt : ¬ (es.length : Int) < 4096 := by omega
      simp only [hlt, decide_false, Bool.false_eq_true, if_false]
      have h0 : 4096 - es.length = 0 := by omega
      have hE : es = decode l := by rw [← hT, h0, dec1_zero, List.append_nil]
      exact hR.listRow mkEv_u (hE ▸ hne) (by rw [← hE]) (by rw [← hE]; rfl) (by decide)
/-! by the reference -/
theorem stepR_no {s : ByteArray} {i m : Nat} (hi : i < s.size) (hm : m ≠ 0) (h : (rdR (s, (i : Int))).2.2 = false) : dec1 (s.data.toList.drop i) m = dec1 (s.data.toList.drop (i + 1)) m := by
  have hs := size_list s
  have hne : s.data.toList.drop i ≠ [] := fun e => by have := congrArg List.length e; rw [List.length_drop] at this; simp at this; omega
  rw [dec1_step hne hm, ← rdR_pe s i (by omega), mayb, h, List.drop_drop]; rfl
theorem stepR_yes {s : ByteArray} {i m : Nat} (hi : i < s.size) (hm : m ≠ 0) (h : (rdR (s, (i : Int))).2.2 = true) : (i : Int) < (rdR (s, (i : Int))).2.1 ∧ (rdR (s, (i : Int))).2.1 ≤ s.size ∧
    dec1 (s.data.toList.drop i) m = (rdR (s, (i : Int))).1 :: dec1 (s.data.toList.drop (rdR (s, (i : Int))).2.1.toNat) (m - 1) := by
  have hs := size_list s
  have hne : s.data.toList.drop i ≠ [] := fun e => by have := congrArg List.length e; rw [List.length_drop] at this; simp at this; omega
  have e : pe (s.data.toList.drop i) = some ((rdR (s, (i : Int))).1, ((rdR (s, (i : Int))).2.1 - i).toNat) := by rw [← rdR_pe s i (by omega), mayb, if_pos h]
  have hp := pe_pos e
  rw [List.length_drop, hs] at hp
  refine ⟨by omega, by omega, ?_⟩
  rw [dec1_step hne hm, e]
  simp only [List.drop_drop]
  rw [show i + ((rdR (s, (i : Int))).2.1 - i).toNat = (rdR (s, (i : Int))).2.1.toNat by omega]
abbrev TdecR : TEnv := tcons 20 (t0 unRd2 okR (outRd2 (fun s => (rdR s).1.1) (fun s => (rdR s).1.2.1) (fun s => (rdR s).1.2.2) (fun s => (rdR s).2.1) (fun s => (rdR s).2.2))) tnil
def IdecR (S : List UInt8) (T : List Ev) (n : Nat) (q : ByteArray × Int ⊕ ByteArray × Int × Nat × List AV) : Prop := match q with
  | .inl q => ∃ i : Nat, q.2 = i ∧ q.1.data.toList = S ∧ i + n = q.1.size ∧ dec1 (S.drop i) 4096 = T
  | .inr q => ∃ (i : Nat) (es : List Ev), q.2.1 = i ∧ q.1.data.toList = S ∧ i + n = q.1.size ∧ q.2.2.1 = es.length ∧ es ≠ [] ∧ q.2.2.2 = recs mkEv es ∧ es ++ dec1 (S.drop i) (4096 - es.length) = T ∧ es.length ≤ 4096
theorem drop_size {s : ByteArray} {S : List UInt8} {i m : Nat} (h : s.data.toList = S) (hi : s.size ≤ i) : dec1 (S.drop i) m = [] := by
  rw [List.drop_eq_nil_of_le (by rw [← h, size_list]; exact hi)]; rfl
set_option maxRecDepth 20000 in
theorem run13 {s : ByteArray} (hok : s.size ≤ 1099511627776) {R : AV → Hp → Prop} (hR : Done 0 (resL 3 mkEv (decode s.data.toList)) R) : Holds (wpFn P TdecR noW head13 0 Go.Proofs.Try.f13 [.s s] [] R) := by
  refine ⟨?_⟩
  rw [vc13]
  simp only [↓br_ite, ↓reduceIte, holds_eq, List.getElem?_cons_zero, List.getElem?_cons_succ, Option.some.injEq, AV.i.injEq, AV.s.injEq, AV.bo.injEq, true_and, and_true, List.cons.injEq, List.length_cons, List.length_nil, and_assoc, exists_and_left, exists_eq_left', exists_eq_left, br_true, br_false, Nat.zero_add, Nat.add_zero, Nat.reduceAdd, Nat.reduceLeDiff, Nat.le_refl, numsOf_one, beq_self_eq_true, Int.reduceLE, Int.reduceLT, Int.reduceAdd, Int.reduceSub, Int.reduceMul, Int.reduceNeg, Int.reduceToNat, Int.reducePow, Int.reduceMod, Int.reduceDiv, Int.cast_ofNat_Int, Int.reduceBEq, i64w, decide_true, decide_false, Int.le_refl, Nat.min_def, reduceIte, Int.one_mul, bits64, Int.natCast_add, Bool.false_eq_true, wk_and]
  have hs := size_list s
  refine ⟨fun x => x.data.toList = s.data.toList.take 262144, ?_, ?_⟩
  · by_cases h : (s.size : Int) > 262144
    · simp only [h, decide_true, if_true]
      exact ⟨by omega, by rw [extract_list]; rfl⟩
    · simp only [h, decide_false, Bool.false_eq_true, if_false]
      rw [List.take_of_length_le (by omega)]
  intro x hx
  have hxs := size_list x
  have hx2 : x.size ≤ 262144 := by rw [← hxs, hx, List.length_take]; omega
  refine ⟨IdecR (s.data.toList.take 262144) (decode s.data.toList), x.size, ⟨0, rfl, hx, by simp only; omega, rfl⟩, ?_, ?_⟩
  · rintro ⟨x, a⟩ n ⟨i, h1, h2, h3, hT⟩
    simp only at h1 h2 h3 ⊢
    subst h1
    have hxs := size_list x
    have hx2 : x.size ≤ 262144 := by rw [← hxs, h2, List.length_take]; omega
    by_cases hi : (i : Int) < x.size
    · simp only [hi, decide_true, if_true]
      have hi' : i < x.size := by omega
      refine ⟨⟨by simp only; omega, hi, by simp only; omega⟩, ?_⟩
      cases hb : (rdR (x, (i : Int))).2.2 with
      | true =>
        simp only [if_true]
        obtain ⟨g1, g2, g3⟩ := stepR_yes (m := 4096) hi' (by decide) hb
        refine ⟨Wk.rows [2] (by decide) rfl rfl (gcR_one rfl rfl) rfl, x.size - (rdR (x, (i : Int))).2.1.toNat, by omega, ?_⟩
        exact ⟨(rdR (x, (i : Int))).2.1.toNat, [(rdR (x, (i : Int))).1], by simp only; omega, h2, by simp only; omega, rfl, by simp, by rw [recs_one]; rfl, by rw [← hT, ← h2, g3]; rfl, by simp⟩
      | false =>
        simp only [Bool.false_eq_true, if_false]
        refine ⟨Wk.rows [] (by decide) rfl rfl rfl rfl, n - 1, by omega, i + 1, ?_, h2, by simp only; omega, ?_⟩
        · rw [i64w (by omega) (by omega)]; omega
        · rw [← hT, ← h2, stepR_no hi' (by decide) hb]
    · simp only [hi, decide_false, Bool.false_eq_true, if_false]
      refine hR.listNil ?_ (by simp)
      rw [← hT, drop_size h2 (by omega)]
  · rintro ⟨x, a, len, cells⟩ n ⟨i, es, h1, h2, h3, h4, hne, h5, hT, hes⟩
    simp only at h1 h2 h3 h4 h5 ⊢
    subst h1 h4 h5
    have hxs := size_list x
    have hx2 : x.size ≤ 262144 := by rw [← hxs, h2, List.length_take]; omega
    by_cases hi : (i : Int) < x.size
    · simp only [hi, decide_true, if_true]
      have hi' : i < x.size := by omega
      refine Or.elim (Nat.lt_or_ge es.length 4096) (fun hlt0 => ?_) (fun hlt0 => ?_)
      · have hlt : (es.length : Int) < 4096 := by omega
        simp only [hlt, decide_true, if_true]
        refine ⟨⟨by simp only; omega, hi, by simp only; omega⟩, ?_⟩
        cases hb : (rdR (x, (i : Int))).2.2 with
        | true =>
          simp only [if_true]
          obtain ⟨g1, g2, g3⟩ := stepR_yes (m := 4096 - es.length) hi' (by omega) hb
          refine ⟨by omega, rfl, by rw [recs_length mkEv_len], Wk.rows [3] (by decide) rfl rfl (gcR_one rfl (by rw [unders_append, recs_unders mkEv_u]; rfl)) rfl, x.size - (rdR (x, (i : Int))).2.1.toNat, by omega, ?_⟩
          refine ⟨(rdR (x, (i : Int))).2.1.toNat, es ++ [(rdR (x, (i : Int))).1], by simp only; omega, h2, by simp only; omega, by simp, by simp, by rw [← recs_snoc]; rfl, ?_, by simp; omega⟩
          rw [h2] at g3
          have := snoc_dec hT g3
          rw [← this, List.length_append]
          congr 2
        | false =>
          simp only [Bool.false_eq_true, if_false]
          refine ⟨Wk.rows [0] (by decide) rfl rfl (gcR_one rfl (recs_unders mkEv_u _)) rfl, n - 1, by omega, i + 1, es, ?_, h2, by simp only; omega, rfl, hne, rfl, ?_, hes⟩
          · rw [i64w (by omega) (by omega)]; show (i : Int) + 1 = ((i + 1 : Nat) : Int); omega
          · rw [← hT, ← h2, stepR_no hi' (by omega) hb]
      · have hlt : ¬ (es.length : Int) < 4096 := by omega
        simp only [hlt, decide_false, Bool.false_eq_true, if_false]
        have h0 : 4096 - es.length = 0 := by omega
        have hE : es = decode s.data.toList := by rw [← hT, h0, dec1_zero, List.append_nil]
        exact hR.listRow mkEv_u (hE ▸ hne) (by rw [← hE]) (by rw [← hE]; rfl) (by decide)
    · simp only [hi, decide_false, Bool.false_eq_true, if_false]
      have hE : es = decode s.data.toList := by rw [← hT, drop_size h2 (by omega), List.append_nil]
      exact hR.listRow mkEv_u (hE ▸ hne) (by rw [← hE]) (by rw [← hE]; rfl) (by decide)
/-! the same events? -/
theorem int_bne (a b : Int) : (a != b) = decide (a ≠ b) := by
  rw [Bool.eq_iff_iff]; simp
theorem take_succ_eq {l m : List Ev} {i : Nat} (hi : i < l.length) (hm : i < m.length) (h : l.take i = m.take i) (e : l[i] = m[i]) : l.take (i + 1) = m.take (i + 1) := by
  rw [← List.take_append_getElem hi, ← List.take_append_getElem hm, h, e]
theorem run12 {l m : List Ev} {off off' : Nat} {cap cap' : Option Nat} {c c' : List AV} (h1 : (c.drop off).take (l.length * 3) = recs mkEv l) (h2 : (c'.drop off').take (m.length * 3) = recs mkEv m) (hl : l.length ≤ 1099511627776) {R : AV → Hp → Prop} (hR : Done 2 (.bo (decide (l = m)), []) R) :
    Holds (wpFn P tnil noW (head12 (.sl 0 off l.length 3 cap) (.sl 1 off' m.length 3 cap') [.cells c false, .cells c' false]) 2 Go.Proofs.Try.f12 [.sl 0 off l.length 3 cap, .sl 1 off' m.length 3 cap'] [.cells c false, .cells c' false] R) := by
  have fin : ∀ b, b = decide (l = m) → R (.bo b) [.cells c false, .cells c' false] := fun b e => by subst e; exact hR.flat rfl (by simp)
  refine ⟨?_⟩
  rw [vc12]
  simp only [↓br_ite, ↓reduceIte, holds_eq, List.getElem?_cons_zero, List.getElem?_cons_succ, Option.some.injEq, AV.i.injEq, AV.s.injEq, AV.bo.injEq, true_and, and_true, List.cons.injEq, List.length_cons, List.length_nil, and_assoc, exists_and_left, exists_eq_left', exists_eq_left, br_true, br_false, Nat.zero_add, Nat.add_zero, Nat.reduceAdd, Nat.reduceLeDiff, Nat.le_refl, numsOf_one, beq_self_eq_true, Int.reduceLE, Int.reduceLT, Int.reduceAdd, Int.reduceSub, Int.reduceMul, Int.reduceNeg, Int.reduceToNat, Int.reducePow, Int.reduceMod, Int.reduceDiv, Int.cast_ofNat_Int, Int.reduceBEq, i64w, decide_true, decide_false, Int.le_refl, Nat.min_def, reduceIte, Int.one_mul, bits64, Int.natCast_add, Bool.false_eq_true, wk_and, int_bne, decide_eq_true_eq]
  by_cases hlen : ¬ l.length = m.length
  · rw [if_pos (by omega)]
    exact fin _ (by symm; simp only [decide_eq_false_iff_not]; exact fun e => hlen (by rw [e]))
  have hlen := Decidable.not_not.1 hlen
  rw [if_neg (by omega)]
  refine ⟨fun n a => ∃ i : Nat, a = i ∧ i + n = l.length ∧ l.take i = m.take i, l.length, ⟨0, rfl, by omega, rfl⟩, ?_⟩
  rintro a n ⟨i, rfl, hi, ht⟩
  by_cases hc : (i : Int) < l.length
  · rw [if_pos hc]
    have hi1 : i < l.length := by omega
    have hi2 : i < m.length := by omega
    have e1 := recs_in mkEv_len h1 rfl (List.getElem?_eq_getElem hi1)
    have e2 := recs_in mkEv_len h2 rfl (List.getElem?_eq_getElem hi2)
    refine ⟨by omega, hc, l[i].1, l[i].2.1, l[i].2.2, by rw [Int.toNat_natCast]; exact e1, by omega, by omega, m[i].1, m[i].2.1, m[i].2.2, by rw [Int.toNat_natCast]; exact e2, ?_⟩
    have bad : l[i] ≠ m[i] → false = decide (l = m) := fun hne => by
      symm; simp only [decide_eq_false_iff_not]
      exact fun e => hne (by subst e; rfl)
    simp only [beq_iff_eq, ba_beq, decide_eq_true_eq]
    by_cases q1 : l[i].1 = m[i].1
    · by_cases q2 : l[i].2.1 = m[i].2.1
      · by_cases q3 : l[i].2.2 = m[i].2.2
        · rw [if_pos q1, if_pos q2, if_pos q3]
          exact ⟨n - 1, by omega, i + 1, by rw [i64w (by omega) (by omega)]; omega, by omega, take_succ_eq hi1 hi2 ht (Prod.ext q1 (Prod.ext q2 q3))⟩
        · rw [if_pos q1, if_pos q2, if_neg q3]
          exact fin _ (bad fun e => q3 (by rw [e]))
      · rw [if_pos q1, if_neg q2]
        exact fin _ (bad fun e => q2 (by rw [e]))
    · rw [if_neg q1]
      exact fin _ (bad fun e => q1 (by rw [e]))
  · rw [if_neg hc]
    refine fin _ ?_
    symm; simp only [decide_eq_true_eq]
    rw [List.take_of_length_le (by omega), List.take_of_length_le (by omega)] at ht
    exact ht
theorem run12_00 {R : AV → Hp → Prop} (hR : Done 0 (.bo (decide (([] : List Ev) = [])), []) R) : Holds (wpFn P tnil noW noL 0 Go.Proofs.Try.f12 [.sn, .sn] [] R) := by
  refine ⟨?_⟩
  rw [vc12_00]
  exact hR.flat (r := .bo true) rfl (by simp)
theorem run12_10 {l : List Ev} {off : Nat} {cap : Option Nat} {c : List AV} {R : AV → Hp → Prop} (hR : Done 1 (.bo (decide (l = [])), []) R) :
    Holds (wpFn P tnil noW (head12 (.sl 0 off l.length 3 cap) .sn [.cells c false]) 1 Go.Proofs.Try.f12 [.sl 0 off l.length 3 cap, .sn] [.cells c false] R) := by
  have fin : ∀ b, b = decide (l = []) → R (.bo b) [.cells c false] := fun b e => by subst e; exact hR.flat rfl (by simp)
  refine ⟨?_⟩
  rw [vc12_10]
  simp only [↓br_ite, ↓reduceIte, holds_eq, List.getElem?_cons_zero, List.getElem?_cons_succ, Option.some.injEq, AV.i.injEq, AV.s.injEq, AV.bo.injEq, true_and, and_true, List.cons.injEq, List.length_cons, List.length_nil, and_assoc, exists_and_left, exists_eq_left', exists_eq_left, br_true, br_false, Nat.zero_add, Nat.add_zero, Nat.reduceAdd, Nat.reduceLeDiff, Nat.le_refl, numsOf_one, beq_self_eq_true, Int.reduceLE, Int.reduceLT, Int.reduceAdd, Int.reduceSub, Int.reduceMul, Int.reduceNeg, Int.reduceToNat, Int.reducePow, Int.reduceMod, Int.reduceDiv, Int.cast_ofNat_Int, Int.reduceBEq, i64w, decide_true, decide_false, Int.le_refl, Nat.min_def, reduceIte, Int.one_mul, bits64, Int.natCast_add, Bool.false_eq_true, wk_and, int_bne, decide_eq_true_eq]
  by_cases hlen : l.length = 0
  · rw [if_neg (by omega)]
    refine ⟨fun n a => a = 0, 0, rfl, ?_⟩
    rintro a n rfl
    rw [if_neg (by omega)]
    exact fin _ (by simpa using hlen)
  · rw [if_pos (by omega)]
    exact fin _ (by simpa using hlen)
theorem run12_01 {l : List Ev} {off : Nat} {cap : Option Nat} {c : List AV} {R : AV → Hp → Prop} (hR : Done 1 (.bo (decide ([] = l)), []) R) :
    Holds (wpFn P tnil noW (head12 .sn (.sl 0 off l.length 3 cap) [.cells c false]) 1 Go.Proofs.Try.f12 [.sn, .sl 0 off l.length 3 cap] [.cells c false] R) := by
  have fin : ∀ b, b = decide ([] = l) → R (.bo b) [.cells c false] := fun b e => by subst e; exact hR.flat rfl (by simp)
  refine ⟨?_⟩
  rw [vc12_01]
  simp only [↓br_ite, ↓reduceIte, holds_eq, List.getElem?_cons_zero, List.getElem?_cons_succ, Option.some.injEq, AV.i.injEq, AV.s.injEq, AV.bo.injEq, true_and, and_true, List.cons.injEq, List.length_cons, List.length_nil, and_assoc, exists_and_left, exists_eq_left', exists_eq_left, br_true, br_false, Nat.zero_add, Nat.add_zero, Nat.reduceAdd, Nat.reduceLeDiff, Nat.le_refl, numsOf_one, beq_self_eq_true, Int.reduceLE, Int.reduceLT, Int.reduceAdd, Int.reduceSub, Int.reduceMul, Int.reduceNeg, Int.reduceToNat, Int.reducePow, Int.reduceMod, Int.reduceDiv, Int.cast_ofNat_Int, Int.reduceBEq, i64w, decide_true, decide_false, Int.le_refl, Nat.min_def, reduceIte, Int.one_mul, bits64, Int.natCast_add, Bool.false_eq_true, wk_and, int_bne, decide_eq_true_eq]
  by_cases hlen : l.length = 0
  · rw [if_neg (by omega)]
    refine ⟨fun n a => a = 0, 0, rfl, ?_⟩
    rintro a n rfl
    rw [if_neg (by omega)]
    exact fin _ (by cases l <;> simp_all)
  · rw [if_pos (by omega)]
    exact fin _ (by cases l <;> simp_all)
end Go.Proofs.Ytnfbgfmdjaodgaa.ScriptRun
