/- Addresses are cut -/
import Derived.Test.YtohaalilplngnaaDoorClassRi
set_option linter.unusedVariables false
set_option linter.unusedSimpArgs false
open Go Go.Proofs.YtohaalilplngnaaDoor.Eng Go.RowKit
namespace Go.Proofs.YtohaalilplngnaaDoor.ClassRun
/-- The bytes of a row. -/
def Get.bytes (d k : Nat) : Get (List Int) := ⟨fun s K => match s.t.getD d und with
  | .p id _ => match s.h.getD id .dead with
    | .cells c _ => ∃ l : List Int, Holds (c = l.map (AV.i .u8) ∧ l.length = k) ∧ K l
    | _ => False
  | _ => False, fun s K h => by
    split at h
    · split at h
      · obtain ⟨l, _, h⟩ := h
        exact ⟨l, h⟩
      · exact h.elim
    · exact h.elim⟩
def head21 (n : Int) : Nat → Option Head := fun r => match r with
  | 2 => some (Head.one (Get.and (Get.row 2) (Get.int 5)) fun q => ⟨[.bad, .i .i64 n, .p 0 0, .bad, .p 1 0, .i .i64 q.2] ++ bads 21, [.cells q.1 true, .cells [.i .u8 0, .i .u8 0, .i .u8 0, .i .u8 0, .i .u8 0, .i .u8 0, .i .u8 0, .i .u8 0, .i .u8 0, .i .u8 0, .i .u8 0, .i .u8 0, .i .u8 0, .i .u8 0, .i .u8 0, .i .u8 0, .i .i64 0] true]⟩)
  | 1005 => some (Head.one (Get.bytes 2 16) fun l => ⟨[.bad, .i .i64 n, .p 0 0, .bad, .p 1 0] ++ bads 22, [.cells [.i .u8 (l.getD 0 0), .i .u8 (l.getD 1 0), .i .u8 (l.getD 2 0), .i .u8 (l.getD 3 0), .i .u8 (l.getD 4 0), .i .u8 (l.getD 5 0), .i .u8 (l.getD 6 0), .i .u8 (l.getD 7 0), .i .u8 (l.getD 8 0), .i .u8 (l.getD 9 0), .i .u8 (l.getD 10 0), .i .u8 (l.getD 11 0), .i .u8 (l.getD 12 0), .i .u8 (l.getD 13 0), .i .u8 (l.getD 14 0), .i .u8 (l.getD 15 0)] true, .cells [.i .u8 0, .i .u8 0, .i .u8 0, .i .u8 0, .i .u8 0, .i .u8 0, .i .u8 0, .i .u8 0, .i .u8 0, .i .u8 0, .i .u8 0, .i .u8 0, .i .u8 0, .i .u8 0, .i .u8 0, .i .u8 0, .i .i64 0] true]⟩)
  | _ => none
def head23 (n : Int) : Nat → Option Head := fun r => match r with
  | 2 => some (Head.one (Get.and (Get.row 2) (Get.int 5)) fun q => ⟨[.bad, .i .i64 n, .p 0 0, .bad, .p 1 0, .i .i64 q.2] ++ bads 21, [.cells q.1 true, .cells [.i .u8 0, .i .u8 0, .i .u8 0, .i .u8 0, .i .i64 0] true]⟩)
  | 1005 => some (Head.one (Get.bytes 2 4) fun l => ⟨[.bad, .i .i64 n, .p 0 0, .bad, .p 1 0] ++ bads 22, [.cells [.i .u8 (l.getD 0 0), .i .u8 (l.getD 1 0), .i .u8 (l.getD 2 0), .i .u8 (l.getD 3 0)] true, .cells [.i .u8 0, .i .u8 0, .i .u8 0, .i .u8 0, .i .i64 0] true]⟩)
  | _ => none
theorem vc21 (p0 p1 p2 p3 p4 p5 p6 p7 p8 p9 p10 p11 p12 p13 p14 p15 n : Int) (R : AV → Hp → Prop) : (wpFn P tnil noW (head21 n) 0 Go.Proofs.Tryd.f21 [.ag [.i .u8 p0, .i .u8 p1, .i .u8 p2, .i .u8 p3, .i .u8 p4, .i .u8 p5, .i .u8 p6, .i .u8 p7, .i .u8 p8, .i .u8 p9, .i .u8 p10, .i .u8 p11, .i .u8 p12, .i .u8 p13, .i .u8 p14, .i .u8 p15], .i .i64 n] [] R) = (∃ (J : List Int → Prop), (Wk (0 : Nat) { t := [.bad, AV.i IntKind.i64 n, AV.p (0 : Nat) (0 : Nat), .bad, AV.p (1 : Nat) (0 : Nat), AV.i IntKind.i64 n, .bad, .bad, .bad, .bad, .bad, .bad, .bad, .bad, .bad, .bad, .bad, .bad, .bad, .bad, .bad, .bad, .bad, .bad, .bad, .bad, .bad], h := [Blk.cells [AV.i IntKind.u8 p0, AV.i IntKind.u8 p1, AV.i IntKind.u8 p2, AV.i IntKind.u8 p3, AV.i IntKind.u8 p4, AV.i IntKind.u8 p5, AV.i IntKind.u8 p6, AV.i IntKind.u8 p7, AV.i IntKind.u8 p8, AV.i IntKind.u8 p9, AV.i IntKind.u8 p10, AV.i IntKind.u8 p11, AV.i IntKind.u8 p12, AV.i IntKind.u8 p13, AV.i IntKind.u8 p14, AV.i IntKind.u8 p15] true, Blk.cells [AV.i IntKind.u8 (0 : Int), AV.i IntKind.u8 (0 : Int), AV.i IntKind.u8 (0 : Int), AV.i IntKind.u8 (0 : Int), AV.i IntKind.u8 (0 : Int), AV.i IntKind.u8 (0 : Int), AV.i IntKind.u8 (0 : Int), AV.i IntKind.u8 (0 : Int), AV.i IntKind.u8 (0 : Int), AV.i IntKind.u8 (0 : Int), AV.i IntKind.u8 (0 : Int), AV.i IntKind.u8 (0 : Int), AV.i IntKind.u8 (0 : Int), AV.i IntKind.u8 (0 : Int), AV.i IntKind.u8 (0 : Int), AV.i IntKind.u8 (0 : Int), AV.i IntKind.i64 (0 : Int)] true] } { t := [.bad, AV.i IntKind.i64 n, AV.p (0 : Nat) (0 : Nat), .bad, AV.p (1 : Nat) (0 : Nat), AV.i IntKind.i64 n, .bad, .bad, .bad, .bad, .bad, .bad, .bad, .bad, .bad, .bad, .bad, .bad, .bad, .bad, .bad, .bad, .bad, .bad, .bad, .bad, .bad], h := [Blk.cells [AV.i IntKind.u8 p0, AV.i IntKind.u8 p1, AV.i IntKind.u8 p2, AV.i IntKind.u8 p3, AV.i IntKind.u8 p4, AV.i IntKind.u8 p5, AV.i IntKind.u8 p6, AV.i IntKind.u8 p7, AV.i IntKind.u8 p8, AV.i IntKind.u8 p9, AV.i IntKind.u8 p10, AV.i IntKind.u8 p11, AV.i IntKind.u8 p12, AV.i IntKind.u8 p13, AV.i IntKind.u8 p14, AV.i IntKind.u8 p15] true, Blk.cells [AV.i IntKind.u8 (0 : Int), AV.i IntKind.u8 (0 : Int), AV.i IntKind.u8 (0 : Int), AV.i IntKind.u8 (0 : Int), AV.i IntKind.u8 (0 : Int), AV.i IntKind.u8 (0 : Int), AV.i IntKind.u8 (0 : Int), AV.i IntKind.u8 (0 : Int), AV.i IntKind.u8 (0 : Int), AV.i IntKind.u8 (0 : Int), AV.i IntKind.u8 (0 : Int), AV.i IntKind.u8 (0 : Int), AV.i IntKind.u8 (0 : Int), AV.i IntKind.u8 (0 : Int), AV.i IntKind.u8 (0 : Int), AV.i IntKind.u8 (0 : Int), AV.i IntKind.i64 (0 : Int)] true] } ∧ ∃ (I : Nat → List AV × Int → Prop), ∃ (n_1 : Nat), I n_1 ([AV.i IntKind.u8 p0, AV.i IntKind.u8 p1, AV.i IntKind.u8 p2, AV.i IntKind.u8 p3, AV.i IntKind.u8 p4, AV.i IntKind.u8 p5, AV.i IntKind.u8 p6, AV.i IntKind.u8 p7, AV.i IntKind.u8 p8, AV.i IntKind.u8 p9, AV.i IntKind.u8 p10, AV.i IntKind.u8 p11, AV.i IntKind.u8 p12, AV.i IntKind.u8 p13, AV.i IntKind.u8 p14, AV.i IntKind.u8 p15], n) ∧ ∀ (a : List AV × Int) (n_2 : Nat), I n_2 a → br (decide (Prod.snd a < (128 : Int))) (Holds ((0 : Int) ≤ IntKind.wrap IntKind.i64 (Int.tdiv (Prod.snd a) (8 : Int)) ∧ IntKind.wrap IntKind.i64 (Int.tdiv (Prod.snd a) (8 : Int)) < (↑(16 : Nat) : Int)) ∧ ∃ (n_3 : Int), Holds (a.1[(0 : Nat) + Int.toNat (IntKind.wrap IntKind.i64 (Int.tdiv (Prod.snd a) (8 : Int))) * (1 : Nat)]? = some (AV.i IntKind.u8 n_3)) ∧ Holds ((0 : Int) ≤ IntKind.wrap IntKind.u64 (IntKind.wrap IntKind.i64 ((7 : Int) - Int.tmod (Prod.snd a) (8 : Int)))) ∧ Holds ((0 : Int) ≤ IntKind.wrap IntKind.i64 (Int.tdiv (Prod.snd a) (8 : Int)) ∧ IntKind.wrap IntKind.i64 (Int.tdiv (Prod.snd a) (8 : Int)) < (↑(16 : Nat) : Int)) ∧ Holds ((0 : Nat) + Int.toNat (IntKind.wrap IntKind.i64 (Int.tdiv (Prod.snd a) (8 : Int))) * (1 : Nat) + (1 : Nat) ≤ List.length a.1) ∧ Wk (0 : Nat) { t := [.bad, AV.i IntKind.i64 n, AV.p (0 : Nat) (0 : Nat), .bad, AV.p (1 : Nat) (0 : Nat), AV.i IntKind.i64 (IntKind.wrap IntKind.i64 (Prod.snd a + (1 : Int))), .bad, .bad, .bad, .bad, .bad, .bad, .bad, .bad, .bad, .bad, .bad, .bad, .bad, .bad, .bad, .bad, .bad, .bad, .bad, .bad, .bad], h := [Blk.cells (setAll a.1 ((0 : Nat) + Int.toNat (IntKind.wrap IntKind.i64 (Int.tdiv (Prod.snd a) (8 : Int))) * (1 : Nat)) [AV.i IntKind.u8 (bits BinOp.andNot IntKind.u8 n_3 (IntKind.wrap IntKind.u8 ((1 : Int) * (2 : Int) ^ min (Int.toNat (IntKind.wrap IntKind.u64 (IntKind.wrap IntKind.i64 ((7 : Int) - Int.tmod (Prod.snd a) (8 : Int))))) (IntKind.bits IntKind.u8))))]) true, Blk.cells [AV.i IntKind.u8 (0 : Int), AV.i IntKind.u8 (0 : Int), AV.i IntKind.u8 (0 : Int), AV.i IntKind.u8 (0 : Int), AV.i IntKind.u8 (0 : Int), AV.i IntKind.u8 (0 : Int), AV.i IntKind.u8 (0 : Int), AV.i IntKind.u8 (0 : Int), AV.i IntKind.u8 (0 : Int), AV.i IntKind.u8 (0 : Int), AV.i IntKind.u8 (0 : Int), AV.i IntKind.u8 (0 : Int), AV.i IntKind.u8 (0 : Int), AV.i IntKind.u8 (0 : Int), AV.i IntKind.u8 (0 : Int), AV.i IntKind.u8 (0 : Int), AV.i IntKind.i64 (0 : Int)] true] } { t := [.bad, AV.i IntKind.i64 n, AV.p (0 : Nat) (0 : Nat), .bad, AV.p (1 : Nat) (0 : Nat), AV.i IntKind.i64 (IntKind.wrap IntKind.i64 (Prod.snd a + (1 : Int))), .bad, .bad, .bad, .bad, .bad, .bad, .bad, .bad, .bad, .bad, .bad, .bad, .bad, .bad, .bad, .bad, .bad, .bad, .bad, .bad, .bad], h := [Blk.cells (setAll a.1 ((0 : Nat) + Int.toNat (IntKind.wrap IntKind.i64 (Int.tdiv (Prod.snd a) (8 : Int))) * (1 : Nat)) [AV.i IntKind.u8 (bits BinOp.andNot IntKind.u8 n_3 (IntKind.wrap IntKind.u8 ((1 : Int) * (2 : Int) ^ min (Int.toNat (IntKind.wrap IntKind.u64 (IntKind.wrap IntKind.i64 ((7 : Int) - Int.tmod (Prod.snd a) (8 : Int))))) (IntKind.bits IntKind.u8))))]) true, Blk.cells [AV.i IntKind.u8 (0 : Int), AV.i IntKind.u8 (0 : Int), AV.i IntKind.u8 (0 : Int), AV.i IntKind.u8 (0 : Int), AV.i IntKind.u8 (0 : Int), AV.i IntKind.u8 (0 : Int), AV.i IntKind.u8 (0 : Int), AV.i IntKind.u8 (0 : Int), AV.i IntKind.u8 (0 : Int), AV.i IntKind.u8 (0 : Int), AV.i IntKind.u8 (0 : Int), AV.i IntKind.u8 (0 : Int), AV.i IntKind.u8 (0 : Int), AV.i IntKind.u8 (0 : Int), AV.i IntKind.u8 (0 : Int), AV.i IntKind.u8 (0 : Int), AV.i IntKind.i64 (0 : Int)] true] } ∧ ∃ (m : Nat), Holds (m < n_2) ∧ I m (setAll a.1 ((0 : Nat) + Int.toNat (IntKind.wrap IntKind.i64 (Int.tdiv (Prod.snd a) (8 : Int))) * (1 : Nat)) [AV.i IntKind.u8 (bits BinOp.andNot IntKind.u8 n_3 (IntKind.wrap IntKind.u8 ((1 : Int) * (2 : Int) ^ min (Int.toNat (IntKind.wrap IntKind.u64 (IntKind.wrap IntKind.i64 ((7 : Int) - Int.tmod (Prod.snd a) (8 : Int))))) (IntKind.bits IntKind.u8))))], IntKind.wrap IntKind.i64 (Prod.snd a + (1 : Int)))) (∃ (l : List Int), Holds (Prod.fst a = List.map (AV.i IntKind.u8) l ∧ List.length l = (16 : Nat)) ∧ Wk (0 : Nat) { t := [.bad, AV.i IntKind.i64 n, AV.p (0 : Nat) (0 : Nat), .bad, AV.p (1 : Nat) (0 : Nat), .bad, .bad, .bad, .bad, .bad, .bad, .bad, .bad, .bad, .bad, .bad, .bad, .bad, .bad, .bad, .bad, .bad, .bad, .bad, .bad, .bad, .bad], h := [Blk.cells (Prod.fst a) true, Blk.cells [AV.i IntKind.u8 (0 : Int), AV.i IntKind.u8 (0 : Int), AV.i IntKind.u8 (0 : Int), AV.i IntKind.u8 (0 : Int), AV.i IntKind.u8 (0 : Int), AV.i IntKind.u8 (0 : Int), AV.i IntKind.u8 (0 : Int), AV.i IntKind.u8 (0 : Int), AV.i IntKind.u8 (0 : Int), AV.i IntKind.u8 (0 : Int), AV.i IntKind.u8 (0 : Int), AV.i IntKind.u8 (0 : Int), AV.i IntKind.u8 (0 : Int), AV.i IntKind.u8 (0 : Int), AV.i IntKind.u8 (0 : Int), AV.i IntKind.u8 (0 : Int), AV.i IntKind.i64 (0 : Int)] true] } { t := [.bad, AV.i IntKind.i64 n, AV.p (0 : Nat) (0 : Nat), .bad, AV.p (1 : Nat) (0 : Nat), .bad, .bad, .bad, .bad, .bad, .bad, .bad, .bad, .bad, .bad, .bad, .bad, .bad, .bad, .bad, .bad, .bad, .bad, .bad, .bad, .bad, .bad], h := [Blk.cells [AV.i IntKind.u8 (List.getD l (0 : Nat) (0 : Int)), AV.i IntKind.u8 (List.getD l (1 : Nat) (0 : Int)), AV.i IntKind.u8 (List.getD l (2 : Nat) (0 : Int)), AV.i IntKind.u8 (List.getD l (3 : Nat) (0 : Int)), AV.i IntKind.u8 (List.getD l (4 : Nat) (0 : Int)), AV.i IntKind.u8 (List.getD l (5 : Nat) (0 : Int)), AV.i IntKind.u8 (List.getD l (6 : Nat) (0 : Int)), AV.i IntKind.u8 (List.getD l (7 : Nat) (0 : Int)), AV.i IntKind.u8 (List.getD l (8 : Nat) (0 : Int)), AV.i IntKind.u8 (List.getD l (9 : Nat) (0 : Int)), AV.i IntKind.u8 (List.getD l (10 : Nat) (0 : Int)), AV.i IntKind.u8 (List.getD l (11 : Nat) (0 : Int)), AV.i IntKind.u8 (List.getD l (12 : Nat) (0 : Int)), AV.i IntKind.u8 (List.getD l (13 : Nat) (0 : Int)), AV.i IntKind.u8 (List.getD l (14 : Nat) (0 : Int)), AV.i IntKind.u8 (List.getD l (15 : Nat) (0 : Int))] true, Blk.cells [AV.i IntKind.u8 (0 : Int), AV.i IntKind.u8 (0 : Int), AV.i IntKind.u8 (0 : Int), AV.i IntKind.u8 (0 : Int), AV.i IntKind.u8 (0 : Int), AV.i IntKind.u8 (0 : Int), AV.i IntKind.u8 (0 : Int), AV.i IntKind.u8 (0 : Int), AV.i IntKind.u8 (0 : Int), AV.i IntKind.u8 (0 : Int), AV.i IntKind.u8 (0 : Int), AV.i IntKind.u8 (0 : Int), AV.i IntKind.u8 (0 : Int), AV.i IntKind.u8 (0 : Int), AV.i IntKind.u8 (0 : Int), AV.i IntKind.u8 (0 : Int), AV.i IntKind.i64 (0 : Int)] true] } ∧ J l)) ∧ ∀ (a : List Int), J a → Holds ((17 : Nat) ≤ List.length [AV.i IntKind.u8 (0 : Int), AV.i IntKind.u8 (0 : Int), AV.i IntKind.u8 (0 : Int), AV.i IntKind.u8 (0 : Int), AV.i IntKind.u8 (0 : Int), AV.i IntKind.u8 (0 : Int), AV.i IntKind.u8 (0 : Int), AV.i IntKind.u8 (0 : Int), AV.i IntKind.u8 (0 : Int), AV.i IntKind.u8 (0 : Int), AV.i IntKind.u8 (0 : Int), AV.i IntKind.u8 (0 : Int), AV.i IntKind.u8 (0 : Int), AV.i IntKind.u8 (0 : Int), AV.i IntKind.u8 (0 : Int), AV.i IntKind.u8 (0 : Int), AV.i IntKind.i64 (0 : Int)]) ∧ R (AV.ag [AV.i IntKind.u8 (List.getD a (0 : Nat) (0 : Int)), AV.i IntKind.u8 (List.getD a (1 : Nat) (0 : Int)), AV.i IntKind.u8 (List.getD a (2 : Nat) (0 : Int)), AV.i IntKind.u8 (List.getD a (3 : Nat) (0 : Int)), AV.i IntKind.u8 (List.getD a (4 : Nat) (0 : Int)), AV.i IntKind.u8 (List.getD a (5 : Nat) (0 : Int)), AV.i IntKind.u8 (List.getD a (6 : Nat) (0 : Int)), AV.i IntKind.u8 (List.getD a (7 : Nat) (0 : Int)), AV.i IntKind.u8 (List.getD a (8 : Nat) (0 : Int)), AV.i IntKind.u8 (List.getD a (9 : Nat) (0 : Int)), AV.i IntKind.u8 (List.getD a (10 : Nat) (0 : Int)), AV.i IntKind.u8 (List.getD a (11 : Nat) (0 : Int)), AV.i IntKind.u8 (List.getD a (12 : Nat) (0 : Int)), AV.i IntKind.u8 (List.getD a (13 : Nat) (0 : Int)), AV.i IntKind.u8 (List.getD a (14 : Nat) (0 : Int)), AV.i IntKind.u8 (List.getD a (15 : Nat) (0 : Int)), AV.i IntKind.i64 n]) [Blk.cells [AV.i IntKind.u8 (List.getD a (0 : Nat) (0 : Int)), AV.i IntKind.u8 (List.getD a (1 : Nat) (0 : Int)), AV.i IntKind.u8 (List.getD a (2 : Nat) (0 : Int)), AV.i IntKind.u8 (List.getD a (3 : Nat) (0 : Int)), AV.i IntKind.u8 (List.getD a (4 : Nat) (0 : Int)), AV.i IntKind.u8 (List.getD a (5 : Nat) (0 : Int)), AV.i IntKind.u8 (List.getD a (6 : Nat) (0 : Int)), AV.i IntKind.u8 (List.getD a (7 : Nat) (0 : Int)), AV.i IntKind.u8 (List.getD a (8 : Nat) (0 : Int)), AV.i IntKind.u8 (List.getD a (9 : Nat) (0 : Int)), AV.i IntKind.u8 (List.getD a (10 : Nat) (0 : Int)), AV.i IntKind.u8 (List.getD a (11 : Nat) (0 : Int)), AV.i IntKind.u8 (List.getD a (12 : Nat) (0 : Int)), AV.i IntKind.u8 (List.getD a (13 : Nat) (0 : Int)), AV.i IntKind.u8 (List.getD a (14 : Nat) (0 : Int)), AV.i IntKind.u8 (List.getD a (15 : Nat) (0 : Int))] true, Blk.cells [AV.i IntKind.u8 (List.getD a (0 : Nat) (0 : Int)), AV.i IntKind.u8 (List.getD a (1 : Nat) (0 : Int)), AV.i IntKind.u8 (List.getD a (2 : Nat) (0 : Int)), AV.i IntKind.u8 (List.getD a (3 : Nat) (0 : Int)), AV.i IntKind.u8 (List.getD a (4 : Nat) (0 : Int)), AV.i IntKind.u8 (List.getD a (5 : Nat) (0 : Int)), AV.i IntKind.u8 (List.getD a (6 : Nat) (0 : Int)), AV.i IntKind.u8 (List.getD a (7 : Nat) (0 : Int)), AV.i IntKind.u8 (List.getD a (8 : Nat) (0 : Int)), AV.i IntKind.u8 (List.getD a (9 : Nat) (0 : Int)), AV.i IntKind.u8 (List.getD a (10 : Nat) (0 : Int)), AV.i IntKind.u8 (List.getD a (11 : Nat) (0 : Int)), AV.i IntKind.u8 (List.getD a (12 : Nat) (0 : Int)), AV.i IntKind.u8 (List.getD a (13 : Nat) (0 : Int)), AV.i IntKind.u8 (List.getD a (14 : Nat) (0 : Int)), AV.i IntKind.u8 (List.getD a (15 : Nat) (0 : Int)), AV.i IntKind.i64 n] true]) := by kernel_rfl
theorem vc23 (p0 p1 p2 p3 n : Int) (R : AV → Hp → Prop) : (wpFn P tnil noW (head23 n) 0 Go.Proofs.Tryd.f23 [.ag [.i .u8 p0, .i .u8 p1, .i .u8 p2, .i .u8 p3], .i .i64 n] [] R) = (∃ (J : List Int → Prop), (Wk (0 : Nat) { t := [.bad, AV.i IntKind.i64 n, AV.p (0 : Nat) (0 : Nat), .bad, AV.p (1 : Nat) (0 : Nat), AV.i IntKind.i64 n, .bad, .bad, .bad, .bad, .bad, .bad, .bad, .bad, .bad, .bad, .bad, .bad, .bad, .bad, .bad, .bad, .bad, .bad, .bad, .bad, .bad], h := [Blk.cells [AV.i IntKind.u8 p0, AV.i IntKind.u8 p1, AV.i IntKind.u8 p2, AV.i IntKind.u8 p3] true, Blk.cells [AV.i IntKind.u8 (0 : Int), AV.i IntKind.u8 (0 : Int), AV.i IntKind.u8 (0 : Int), AV.i IntKind.u8 (0 : Int), AV.i IntKind.i64 (0 : Int)] true] } { t := [.bad, AV.i IntKind.i64 n, AV.p (0 : Nat) (0 : Nat), .bad, AV.p (1 : Nat) (0 : Nat), AV.i IntKind.i64 n, .bad, .bad, .bad, .bad, .bad, .bad, .bad, .bad, .bad, .bad, .bad, .bad, .bad, .bad, .bad, .bad, .bad, .bad, .bad, .bad, .bad], h := [Blk.cells [AV.i IntKind.u8 p0, AV.i IntKind.u8 p1, AV.i IntKind.u8 p2, AV.i IntKind.u8 p3] true, Blk.cells [AV.i IntKind.u8 (0 : Int), AV.i IntKind.u8 (0 : Int), AV.i IntKind.u8 (0 : Int), AV.i IntKind.u8 (0 : Int), AV.i IntKind.i64 (0 : Int)] true] } ∧ ∃ (I : Nat → List AV × Int → Prop), ∃ (n_1 : Nat), I n_1 ([AV.i IntKind.u8 p0, AV.i IntKind.u8 p1, AV.i IntKind.u8 p2, AV.i IntKind.u8 p3], n) ∧ ∀ (a : List AV × Int) (n_2 : Nat), I n_2 a → br (decide (Prod.snd a < (32 : Int))) (Holds ((0 : Int) ≤ IntKind.wrap IntKind.i64 (Int.tdiv (Prod.snd a) (8 : Int)) ∧ IntKind.wrap IntKind.i64 (Int.tdiv (Prod.snd a) (8 : Int)) < (↑(4 : Nat) : Int)) ∧ ∃ (n_3 : Int), Holds (a.1[(0 : Nat) + Int.toNat (IntKind.wrap IntKind.i64 (Int.tdiv (Prod.snd a) (8 : Int))) * (1 : Nat)]? = some (AV.i IntKind.u8 n_3)) ∧ Holds ((0 : Int) ≤ IntKind.wrap IntKind.u64 (IntKind.wrap IntKind.i64 ((7 : Int) - Int.tmod (Prod.snd a) (8 : Int)))) ∧ Holds ((0 : Int) ≤ IntKind.wrap IntKind.i64 (Int.tdiv (Prod.snd a) (8 : Int)) ∧ IntKind.wrap IntKind.i64 (Int.tdiv (Prod.snd a) (8 : Int)) < (↑(4 : Nat) : Int)) ∧ Holds ((0 : Nat) + Int.toNat (IntKind.wrap IntKind.i64 (Int.tdiv (Prod.snd a) (8 : Int))) * (1 : Nat) + (1 : Nat) ≤ List.length a.1) ∧ Wk (0 : Nat) { t := [.bad, AV.i IntKind.i64 n, AV.p (0 : Nat) (0 : Nat), .bad, AV.p (1 : Nat) (0 : Nat), AV.i IntKind.i64 (IntKind.wrap IntKind.i64 (Prod.snd a + (1 : Int))), .bad, .bad, .bad, .bad, .bad, .bad, .bad, .bad, .bad, .bad, .bad, .bad, .bad, .bad, .bad, .bad, .bad, .bad, .bad, .bad, .bad], h := [Blk.cells (setAll a.1 ((0 : Nat) + Int.toNat (IntKind.wrap IntKind.i64 (Int.tdiv (Prod.snd a) (8 : Int))) * (1 : Nat)) [AV.i IntKind.u8 (bits BinOp.andNot IntKind.u8 n_3 (IntKind.wrap IntKind.u8 ((1 : Int) * (2 : Int) ^ min (Int.toNat (IntKind.wrap IntKind.u64 (IntKind.wrap IntKind.i64 ((7 : Int) - Int.tmod (Prod.snd a) (8 : Int))))) (IntKind.bits IntKind.u8))))]) true, Blk.cells [AV.i IntKind.u8 (0 : Int), AV.i IntKind.u8 (0 : Int), AV.i IntKind.u8 (0 : Int), AV.i IntKind.u8 (0 : Int), AV.i IntKind.i64 (0 : Int)] true] } { t := [.bad, AV.i IntKind.i64 n, AV.p (0 : Nat) (0 : Nat), .bad, AV.p (1 : Nat) (0 : Nat), AV.i IntKind.i64 (IntKind.wrap IntKind.i64 (Prod.snd a + (1 : Int))), .bad, .bad, .bad, .bad, .bad, .bad, .bad, .bad, .bad, .bad, .bad, .bad, .bad, .bad, .bad, .bad, .bad, .bad, .bad, .bad, .bad], h := [Blk.cells (setAll a.1 ((0 : Nat) + Int.toNat (IntKind.wrap IntKind.i64 (Int.tdiv (Prod.snd a) (8 : Int))) * (1 : Nat)) [AV.i IntKind.u8 (bits BinOp.andNot IntKind.u8 n_3 (IntKind.wrap IntKind.u8 ((1 : Int) * (2 : Int) ^ min (Int.toNat (IntKind.wrap IntKind.u64 (IntKind.wrap IntKind.i64 ((7 : Int) - Int.tmod (Prod.snd a) (8 : Int))))) (IntKind.bits IntKind.u8))))]) true, Blk.cells [AV.i IntKind.u8 (0 : Int), AV.i IntKind.u8 (0 : Int), AV.i IntKind.u8 (0 : Int), AV.i IntKind.u8 (0 : Int), AV.i IntKind.i64 (0 : Int)] true] } ∧ ∃ (m : Nat), Holds (m < n_2) ∧ I m (setAll a.1 ((0 : Nat) + Int.toNat (IntKind.wrap IntKind.i64 (Int.tdiv (Prod.snd a) (8 : Int))) * (1 : Nat)) [AV.i IntKind.u8 (bits BinOp.andNot IntKind.u8 n_3 (IntKind.wrap IntKind.u8 ((1 : Int) * (2 : Int) ^ min (Int.toNat (IntKind.wrap IntKind.u64 (IntKind.wrap IntKind.i64 ((7 : Int) - Int.tmod (Prod.snd a) (8 : Int))))) (IntKind.bits IntKind.u8))))], IntKind.wrap IntKind.i64 (Prod.snd a + (1 : Int)))) (∃ (l : List Int), Holds (Prod.fst a = List.map (AV.i IntKind.u8) l ∧ List.length l = (4 : Nat)) ∧ Wk (0 : Nat) { t := [.bad, AV.i IntKind.i64 n, AV.p (0 : Nat) (0 : Nat), .bad, AV.p (1 : Nat) (0 : Nat), .bad, .bad, .bad, .bad, .bad, .bad, .bad, .bad, .bad, .bad, .bad, .bad, .bad, .bad, .bad, .bad, .bad, .bad, .bad, .bad, .bad, .bad], h := [Blk.cells (Prod.fst a) true, Blk.cells [AV.i IntKind.u8 (0 : Int), AV.i IntKind.u8 (0 : Int), AV.i IntKind.u8 (0 : Int), AV.i IntKind.u8 (0 : Int), AV.i IntKind.i64 (0 : Int)] true] } { t := [.bad, AV.i IntKind.i64 n, AV.p (0 : Nat) (0 : Nat), .bad, AV.p (1 : Nat) (0 : Nat), .bad, .bad, .bad, .bad, .bad, .bad, .bad, .bad, .bad, .bad, .bad, .bad, .bad, .bad, .bad, .bad, .bad, .bad, .bad, .bad, .bad, .bad], h := [Blk.cells [AV.i IntKind.u8 (List.getD l (0 : Nat) (0 : Int)), AV.i IntKind.u8 (List.getD l (1 : Nat) (0 : Int)), AV.i IntKind.u8 (List.getD l (2 : Nat) (0 : Int)), AV.i IntKind.u8 (List.getD l (3 : Nat) (0 : Int))] true, Blk.cells [AV.i IntKind.u8 (0 : Int), AV.i IntKind.u8 (0 : Int), AV.i IntKind.u8 (0 : Int), AV.i IntKind.u8 (0 : Int), AV.i IntKind.i64 (0 : Int)] true] } ∧ J l)) ∧ ∀ (a : List Int), J a → Holds ((5 : Nat) ≤ List.length [AV.i IntKind.u8 (0 : Int), AV.i IntKind.u8 (0 : Int), AV.i IntKind.u8 (0 : Int), AV.i IntKind.u8 (0 : Int), AV.i IntKind.i64 (0 : Int)]) ∧ R (AV.ag [AV.i IntKind.u8 (List.getD a (0 : Nat) (0 : Int)), AV.i IntKind.u8 (List.getD a (1 : Nat) (0 : Int)), AV.i IntKind.u8 (List.getD a (2 : Nat) (0 : Int)), AV.i IntKind.u8 (List.getD a (3 : Nat) (0 : Int)), AV.i IntKind.i64 n]) [Blk.cells [AV.i IntKind.u8 (List.getD a (0 : Nat) (0 : Int)), AV.i IntKind.u8 (List.getD a (1 : Nat) (0 : Int)), AV.i IntKind.u8 (List.getD a (2 : Nat) (0 : Int)), AV.i IntKind.u8 (List.getD a (3 : Nat) (0 : Int))] true, Blk.cells [AV.i IntKind.u8 (List.getD a (0 : Nat) (0 : Int)), AV.i IntKind.u8 (List.getD a (1 : Nat) (0 : Int)), AV.i IntKind.u8 (List.getD a (2 : Nat) (0 : Int)), AV.i IntKind.u8 (List.getD a (3 : Nat) (0 : Int)), AV.i IntKind.i64 n] true]) := by kernel_rfl
/-- The first lo bits, and those behind the first hi. -/
def mid (x : Int) (lo hi : Nat) : Int := x / 2 ^ (8 - lo) * 2 ^ (8 - lo) + x % 2 ^ (8 - hi)
def stepOk (x lo h : Nat) : Bool := decide (Go.bits .andNot .u8 (mid x lo h) (IntKind.wrap .u8 (1 * 2 ^ (7 - h))) = mid x lo (h + 1))
set_option maxRecDepth 10000000 in
theorem stepAll : ((List.range 256).all fun x => (List.range 8).all fun h => (List.range (h + 1)).all fun lo => stepOk x lo h) = true := by kernel_rfl
theorem step_bit {x : Int} (h0 : 0 ≤ x) (h1 : x ≤ 255) {lo h : Nat} (hh : h < 8) (hl : lo ≤ h) : Go.bits .andNot .u8 (mid x lo h) (IntKind.wrap .u8 (1 * 2 ^ (7 - h))) = mid x lo (h + 1) := by
  obtain ⟨X, rfl⟩ : ∃ X : Nat, x = X := ⟨x.toNat, by omega⟩
  have a := List.all_eq_true.1 stepAll X (List.mem_range.2 (by omega))
  have b := List.all_eq_true.1 a h (List.mem_range.2 hh)
  have c := List.all_eq_true.1 b lo (List.mem_range.2 (by omega))
  exact of_decide_eq_true c
theorem mid_same (x : Int) (k : Nat) : mid x k k = x := by
  unfold mid
  have := Int.mul_ediv_add_emod x (2 ^ (8 - k))
  rw [Int.mul_comm]; exact this
theorem mid_end (x : Int) (k : Nat) : mid x k 8 = x / 2 ^ (8 - k) * 2 ^ (8 - k) := by
  unfold mid; simp
def midL (l : List Int) (n i : Int) : List Int := (List.range l.length).map fun j => mid (l.getD j 0) (kk n j) (kk i j)
def cutL (l : List Int) (n : Int) : List Int := (List.range l.length).map fun j => l.getD j 0 / 2 ^ (8 - kk n j) * 2 ^ (8 - kk n j)
theorem midL_len (l : List Int) (n i : Int) : (midL l n i).length = l.length := by simp [midL]
theorem cutL_len (l : List Int) (n : Int) : (cutL l n).length = l.length := by simp [cutL]
theorem midL_get {l : List Int} {n i : Int} {j : Nat} (h : j < l.length) : (midL l n i)[j]? = some (mid (l.getD j 0) (kk n j) (kk i j)) := by simp [midL, h]
theorem midL_start (l : List Int) (n : Int) : midL l n n = l := by
  apply List.ext_getElem?
  intro j
  by_cases h : j < l.length
  · rw [midL_get h, mid_same, List.getD_eq_getElem?_getD, List.getElem?_eq_getElem h]; rfl
  · rw [List.getElem?_eq_none (by rw [midL_len]; omega), List.getElem?_eq_none (by omega)]
theorem midL_stop (l : List Int) (n i : Int) (h : 8 * l.length ≤ i) : midL l n i = cutL l n := by
  unfold midL cutL
  apply List.map_congr_left
  intro j hj
  have hj := List.mem_range.1 hj
  have : kk i j = 8 := by unfold kk; omega
  rw [this, mid_end]
/-- A step: one bit is struck. -/
theorem midL_step {l : List Int} {n : Int} {i : Nat} (ho : okb l) (hn : 0 ≤ n) (hni : n ≤ i) (hi : i < 8 * l.length) :
    setAll ((midL l n i).map (AV.i .u8)) (0 + (i / 8) * 1) [.i .u8 (Go.bits .andNot .u8 (mid (l.getD (i / 8) 0) (kk n (i / 8)) (i % 8)) (IntKind.wrap .u8 (1 * 2 ^ (7 - i % 8))))] = (midL l n ((i : Int) + 1)).map (AV.i .u8) := by
  have hj : i / 8 < l.length := by omega
  have hb := ho (i / 8) hj
  rw [step_bit hb.1 hb.2 (by omega) (by unfold kk; omega)]
  show ((midL l n i).map (AV.i .u8)).set (0 + (i / 8) * 1) _ = _
  rw [Nat.zero_add, Nat.mul_one]
  apply List.ext_getElem?
  intro j
  by_cases e : i / 8 = j
  · subst e
    rw [List.getElem?_set_self (by rw [List.length_map, midL_len]; exact hj), List.getElem?_map, midL_get hj]
    have : kk ((i : Int) + 1) (i / 8) = i % 8 + 1 := by unfold kk; omega
    rw [this]; rfl
  · rw [List.getElem?_set_ne e, List.getElem?_map, List.getElem?_map]
    by_cases h : j < l.length
    · rw [midL_get h, midL_get h]
      have : kk ((i : Int) + 1) j = kk i j := by unfold kk; omega
      rw [this]
    · rw [List.getElem?_eq_none (by rw [midL_len]; omega), List.getElem?_eq_none (by rw [midL_len]; omega)]
theorem shift_eq (i : Nat) : min (Int.toNat (IntKind.wrap .u64 (IntKind.wrap .i64 (7 - Int.tmod (i : Int) 8)))) (IntKind.bits .u8) = 7 - i % 8 := by
  have e8 : IntKind.bits .u8 = 8 := rfl
  rw [Int.tmod_eq_emod_of_nonneg (Int.natCast_nonneg _), i64w (by omega) (by omega), e8]
  have : IntKind.wrap .u64 (7 - (i : Int) % 8) = 7 - (i : Int) % 8 := by
    rw [IntKind.wrap_u64]; omega
  rw [this]; omega
theorem idx_eq (i : Nat) : IntKind.wrap .i64 (Int.tdiv (i : Int) 8) = ((i / 8 : Nat) : Int) ∨ 9223372036854775807 < (i : Int) := by
  rcases Nat.lt_or_ge i 9223372036854775808 with h | h
  · left
    rw [Int.tdiv_eq_ediv_of_nonneg (Int.natCast_nonneg _), i64w (by omega) (by omega)]; omega
  · right; omega
set_option maxRecDepth 100000 in
theorem run21 {p0 p1 p2 p3 p4 p5 p6 p7 p8 p9 p10 p11 p12 p13 p14 p15 n : Int} (hk : okb [p0, p1, p2, p3, p4, p5, p6, p7, p8, p9, p10, p11, p12, p13, p14, p15]) (h0 : 0 ≤ n) (h1 : n ≤ 128) : Holds (wpFn P tnil noW (head21 n) 0 Go.Proofs.Tryd.f21 [.ag [.i .u8 p0, .i .u8 p1, .i .u8 p2, .i .u8 p3, .i .u8 p4, .i .u8 p5, .i .u8 p6, .i .u8 p7, .i .u8 p8, .i .u8 p9, .i .u8 p10, .i .u8 p11, .i .u8 p12, .i .u8 p13, .i .u8 p14, .i .u8 p15], .i .i64 n] [] fun v _ => v = .ag [.i .u8 ((cutL [p0, p1, p2, p3, p4, p5, p6, p7, p8, p9, p10, p11, p12, p13, p14, p15] n).getD 0 0), .i .u8 ((cutL [p0, p1, p2, p3, p4, p5, p6, p7, p8, p9, p10, p11, p12, p13, p14, p15] n).getD 1 0), .i .u8 ((cutL [p0, p1, p2, p3, p4, p5, p6, p7, p8, p9, p10, p11, p12, p13, p14, p15] n).getD 2 0), .i .u8 ((cutL [p0, p1, p2, p3, p4, p5, p6, p7, p8, p9, p10, p11, p12, p13, p14, p15] n).getD 3 0), .i .u8 ((cutL [p0, p1, p2, p3, p4, p5, p6, p7, p8, p9, p10, p11, p12, p13, p14, p15] n).getD 4 0), .i .u8 ((cutL [p0, p1, p2, p3, p4, p5, p6, p7, p8, p9, p10, p11, p12, p13, p14, p15] n).getD 5 0), .i .u8 ((cutL [p0, p1, p2, p3, p4, p5, p6, p7, p8, p9, p10, p11, p12, p13, p14, p15] n).getD 6 0), .i .u8 ((cutL [p0, p1, p2, p3, p4, p5, p6, p7, p8, p9, p10, p11, p12, p13, p14, p15] n).getD 7 0), .i .u8 ((cutL [p0, p1, p2, p3, p4, p5, p6, p7, p8, p9, p10, p11, p12, p13, p14, p15] n).getD 8 0), .i .u8 ((cutL [p0, p1, p2, p3, p4, p5, p6, p7, p8, p9, p10, p11, p12, p13, p14, p15] n).getD 9 0), .i .u8 ((cutL [p0, p1, p2, p3, p4, p5, p6, p7, p8, p9, p10, p11, p12, p13, p14, p15] n).getD 10 0), .i .u8 ((cutL [p0, p1, p2, p3, p4, p5, p6, p7, p8, p9, p10, p11, p12, p13, p14, p15] n).getD 11 0), .i .u8 ((cutL [p0, p1, p2, p3, p4, p5, p6, p7, p8, p9, p10, p11, p12, p13, p14, p15] n).getD 12 0), .i .u8 ((cutL [p0, p1, p2, p3, p4, p5, p6, p7, p8, p9, p10, p11, p12, p13, p14, p15] n).getD 13 0), .i .u8 ((cutL [p0, p1, p2, p3, p4, p5, p6, p7, p8, p9, p10, p11, p12, p13, p14, p15] n).getD 14 0), .i .u8 ((cutL [p0, p1, p2, p3, p4, p5, p6, p7, p8, p9, p10, p11, p12, p13, p14, p15] n).getD 15 0), .i .i64 n]) := by
  refine ⟨?_⟩
  rw [vc21]
  refine ⟨fun l => l = cutL [p0, p1, p2, p3, p4, p5, p6, p7, p8, p9, p10, p11, p12, p13, p14, p15] n, ⟨Wk.refl _ _, fun m q => ∃ i : Nat, (i : Int) + m = 128 ∧ n ≤ i ∧ q.2 = (i : Int) ∧ q.1 = (midL [p0, p1, p2, p3, p4, p5, p6, p7, p8, p9, p10, p11, p12, p13, p14, p15] n i).map (AV.i .u8), (128 - n).toNat, ⟨n.toNat, by omega, by omega, by simp only; omega, ?_⟩, ?_⟩, ?_⟩
  · rw [show ((n.toNat : Nat) : Int) = n by omega, midL_start]; rfl
  · rintro ⟨c, i'⟩ m ⟨i, hm, hni, e1, e2⟩
    simp only at e1 e2
    subst e1 e2
    refine br_intro (fun hi => ?_) (fun hi => ?_)
    · simp only [decide_eq_true_eq] at hi
      have ix : IntKind.wrap .i64 (Int.tdiv (i : Int) 8) = ((i / 8 : Nat) : Int) := by
        rcases idx_eq i with h | h
        · exact h
        · omega
      have hj : i / 8 < [p0, p1, p2, p3, p4, p5, p6, p7, p8, p9, p10, p11, p12, p13, p14, p15].length := by show i / 8 < 16; omega
      simp only [ix, shift_eq, Int.toNat_natCast]
      have hki : kk i (i / 8) = i % 8 := by unfold kk; omega
      have hget := midL_get (n := n) (i := i) hj
      rw [hki] at hget
      refine ⟨⟨Int.natCast_nonneg _, by omega⟩, _, ⟨by rw [Nat.zero_add, Nat.mul_one, List.getElem?_map, hget]; rfl⟩, ⟨?_⟩, ⟨Int.natCast_nonneg _, by omega⟩, ⟨?_⟩, Wk.refl _ _, m - 1, ⟨by omega⟩, i + 1, by omega, by omega, i64w (x := (i : Int) + 1) (by omega) (by omega), ?_⟩
      · rw [Int.tmod_eq_emod_of_nonneg (Int.natCast_nonneg _), i64w (by omega) (by omega), IntKind.wrap_u64]; omega
      · rw [List.length_map, midL_len]
        show 0 + i / 8 * 1 + 1 ≤ 16
        omega
      · exact midL_step hk h0 hni (by show i < 8 * 16; omega)
    · simp only [decide_eq_false_iff_not] at hi
      have ei := midL_stop [p0, p1, p2, p3, p4, p5, p6, p7, p8, p9, p10, p11, p12, p13, p14, p15] n i (by show (8 * 16 : Int) ≤ i; omega)
      have hlen : (cutL [p0, p1, p2, p3, p4, p5, p6, p7, p8, p9, p10, p11, p12, p13, p14, p15] n).length = 16 := cutL_len _ _
      rw [ei]
      refine ⟨cutL [p0, p1, p2, p3, p4, p5, p6, p7, p8, p9, p10, p11, p12, p13, p14, p15] n, ⟨rfl, hlen⟩, ?_, rfl⟩
      generalize cutL [p0, p1, p2, p3, p4, p5, p6, p7, p8, p9, p10, p11, p12, p13, p14, p15] n = z at hlen
      match z, hlen with
      | [p0, p1, p2, p3, p4, p5, p6, p7, p8, p9, p10, p11, p12, p13, p14, p15], _ => exact Wk.refl _ _
  · rintro l rfl
    exact ⟨⟨by decide⟩, rfl⟩
set_option maxRecDepth 100000 in
theorem run23 {p0 p1 p2 p3 n : Int} (hk : okb [p0, p1, p2, p3]) (h0 : 0 ≤ n) (h1 : n ≤ 32) : Holds (wpFn P tnil noW (head23 n) 0 Go.Proofs.Tryd.f23 [.ag [.i .u8 p0, .i .u8 p1, .i .u8 p2, .i .u8 p3], .i .i64 n] [] fun v _ => v = .ag [.i .u8 ((cutL [p0, p1, p2, p3] n).getD 0 0), .i .u8 ((cutL [p0, p1, p2, p3] n).getD 1 0), .i .u8 ((cutL [p0, p1, p2, p3] n).getD 2 0), .i .u8 ((cutL [p0, p1, p2, p3] n).getD 3 0), .i .i64 n]) := by
  refine ⟨?_⟩
  rw [vc23]
  refine ⟨fun l => l = cutL [p0, p1, p2, p3] n, ⟨Wk.refl _ _, fun m q => ∃ i : Nat, (i : Int) + m = 32 ∧ n ≤ i ∧ q.2 = (i : Int) ∧ q.1 = (midL [p0, p1, p2, p3] n i).map (AV.i .u8), (32 - n).toNat, ⟨n.toNat, by omega, by omega, by simp only; omega, ?_⟩, ?_⟩, ?_⟩
  · rw [show ((n.toNat : Nat) : Int) = n by omega, midL_start]; rfl
  · rintro ⟨c, i'⟩ m ⟨i, hm, hni, e1, e2⟩
    simp only at e1 e2
    subst e1 e2
    refine br_intro (fun hi => ?_) (fun hi => ?_)
    · simp only [decide_eq_true_eq] at hi
      have ix : IntKind.wrap .i64 (Int.tdiv (i : Int) 8) = ((i / 8 : Nat) : Int) := by
        rcases idx_eq i with h | h
        · exact h
        · omega
      have hj : i / 8 < [p0, p1, p2, p3].length := by show i / 8 < 4; omega
      simp only [ix, shift_eq, Int.toNat_natCast]
      have hki : kk i (i / 8) = i % 8 := by unfold kk; omega
      have hget := midL_get (n := n) (i := i) hj
      rw [hki] at hget
      refine ⟨⟨Int.natCast_nonneg _, by omega⟩, _, ⟨by rw [Nat.zero_add, Nat.mul_one, List.getElem?_map, hget]; rfl⟩, ⟨?_⟩, ⟨Int.natCast_nonneg _, by omega⟩, ⟨?_⟩, Wk.refl _ _, m - 1, ⟨by omega⟩, i + 1, by omega, by omega, i64w (x := (i : Int) + 1) (by omega) (by omega), ?_⟩
      · rw [Int.tmod_eq_emod_of_nonneg (Int.natCast_nonneg _), i64w (by omega) (by omega), IntKind.wrap_u64]; omega
      · rw [List.length_map, midL_len]
        show 0 + i / 8 * 1 + 1 ≤ 4
        omega
      · exact midL_step hk h0 hni (by show i < 8 * 4; omega)
    · simp only [decide_eq_false_iff_not] at hi
      have ei := midL_stop [p0, p1, p2, p3] n i (by show (8 * 4 : Int) ≤ i; omega)
      have hlen : (cutL [p0, p1, p2, p3] n).length = 4 := cutL_len _ _
      rw [ei]
      refine ⟨cutL [p0, p1, p2, p3] n, ⟨rfl, hlen⟩, ?_, rfl⟩
      generalize cutL [p0, p1, p2, p3] n = z at hlen
      match z, hlen with
      | [p0, p1, p2, p3], _ => exact Wk.refl _ _
  · rintro l rfl
    exact ⟨⟨by decide⟩, rfl⟩
