/- The document's Holds. -/
import Derived.Test.YtohaalilplngnaaDoorClassShC
set_option linter.unusedVariables false
set_option linter.unusedSimpArgs false
open Go Go.Proofs.YtohaalilplngnaaDoor.Eng Go.RowKit
namespace Go.Proofs.YtohaalilplngnaaDoor.ClassRun
def tholdr (B : List Int → List Int → Int → Bool) (args : List AV) (h : Hp) (K : AV → Hp → Prop) : Prop := match args with
  | [.sl ia oa la 1 ca, .sl ib ob lb 1 cb, .i .i64 n] => match h.getD ia .dead, h.getD ib .dead with
    | .cells c wr, .cells d wr' => optQ (numsOf ((c.drop oa).take la)) fun x => optQ (numsOf ((d.drop ob).take lb)) fun y => Holds (okb x ∧ okb y ∧ x.length = la ∧ y.length = la ∧ lb = la ∧ la ≤ 16 ∧ ia ≠ ib) ∧ K (.bo (B x y n)) h
    | _, _ => False
  | _ => False
def head55 (oa ob len lenb : Nat) (ca cb : Option Nat) (n : Int) (c d : List AV) : Nat → Option Head := fun r => match r with
  | 4 => some (Head.one (Get.int 7) fun q => ⟨[.sl 0 oa len 1 ca, .sl 1 ob lenb 1 cb, .i .i64 n, .bad, .bad, .bad, .bad, .i .i64 q] ++ bads 38, [.cells c false, .cells d false]⟩)
  | _ => none
noncomputable abbrev T55 : TEnv := tcons 69 (tinl P tnil noW Go.Proofs.Tryd.f69) tnil
theorem vc55 (oa ob len lenb : Nat) (ca cb : Option Nat) (n : Int) (c d : List AV) (R : AV → Hp → Prop) : (wpFn P T55 noW (head55 oa ob len lenb ca cb n c d) 2 Go.Proofs.Tryd.f55 [.sl 0 oa len 1 ca, .sl 1 ob lenb 1 cb, .i .i64 n] [.cells c false, .cells d false] R) = (br (decide (n < (0 : Int))) (R (AV.bo false) [Blk.cells c false, Blk.cells d false]) (br (decide (n > IntKind.wrap IntKind.i64 ((8 : Int) * (↑len : Int)))) (R (AV.bo false) [Blk.cells c false, Blk.cells d false]) (Wk (2 : Nat) { t := [AV.sl (0 : Nat) oa len (1 : Nat) ca, AV.sl (1 : Nat) ob lenb (1 : Nat) cb, AV.i IntKind.i64 n, .bad, .bad, .bad, .bad, AV.i IntKind.i64 (0 : Int), .bad, .bad, .bad, .bad, .bad, .bad, .bad, .bad, .bad, .bad, .bad, .bad, .bad, .bad, .bad, .bad, .bad, .bad, .bad, .bad, .bad, .bad, .bad, .bad, .bad, .bad, .bad, .bad, .bad, .bad, .bad, .bad, .bad, .bad, .bad, .bad, .bad, .bad], h := [Blk.cells c false, Blk.cells d false] } { t := [AV.sl (0 : Nat) oa len (1 : Nat) ca, AV.sl (1 : Nat) ob lenb (1 : Nat) cb, AV.i IntKind.i64 n, .bad, .bad, .bad, .bad, AV.i IntKind.i64 (0 : Int), .bad, .bad, .bad, .bad, .bad, .bad, .bad, .bad, .bad, .bad, .bad, .bad, .bad, .bad, .bad, .bad, .bad, .bad, .bad, .bad, .bad, .bad, .bad, .bad, .bad, .bad, .bad, .bad, .bad, .bad, .bad, .bad, .bad, .bad, .bad, .bad, .bad, .bad], h := [Blk.cells c false, Blk.cells d false] } ∧ ∃ (I : Nat → Int → Prop), ∃ (n_1 : Nat), I n_1 (0 : Int) ∧ ∀ (a : Int) (n_2 : Nat), I n_2 a → br (decide (a < IntKind.wrap IntKind.i64 ((8 : Int) * (↑len : Int)))) (br (decide (a ≥ n)) (Holds ((0 : Int) ≤ IntKind.wrap IntKind.i64 (Int.tdiv a (8 : Int)) ∧ IntKind.wrap IntKind.i64 (Int.tdiv a (8 : Int)) < (↑len : Int)) ∧ ∃ (n_3 : Int), Holds (c[oa + Int.toNat (IntKind.wrap IntKind.i64 (Int.tdiv a (8 : Int))) * (1 : Nat)]? = some (AV.i IntKind.u8 n_3)) ∧ Holds ((0 : Int) ≤ IntKind.wrap IntKind.u64 (IntKind.wrap IntKind.i64 ((7 : Int) - Int.tmod a (8 : Int)))) ∧ br (Int.tmod (Int.fdiv n_3 ((2 : Int) ^ min (Int.toNat (IntKind.wrap IntKind.u64 (IntKind.wrap IntKind.i64 ((7 : Int) - Int.tmod a (8 : Int))))) (IntKind.bits IntKind.u8))) (2 : Int) == (1 : Int)) (R (AV.bo false) [Blk.cells c false, Blk.cells d false]) (br (decide (a < n)) (Holds ((0 : Int) ≤ IntKind.wrap IntKind.i64 (Int.tdiv a (8 : Int)) ∧ IntKind.wrap IntKind.i64 (Int.tdiv a (8 : Int)) < (↑len : Int)) ∧ ∃ (n_4 : Int), Holds (c[oa + Int.toNat (IntKind.wrap IntKind.i64 (Int.tdiv a (8 : Int))) * (1 : Nat)]? = some (AV.i IntKind.u8 n_4)) ∧ Holds ((0 : Int) ≤ IntKind.wrap IntKind.u64 (IntKind.wrap IntKind.i64 ((7 : Int) - Int.tmod a (8 : Int)))) ∧ Holds ((0 : Int) ≤ IntKind.wrap IntKind.i64 (Int.tdiv a (8 : Int)) ∧ IntKind.wrap IntKind.i64 (Int.tdiv a (8 : Int)) < (↑lenb : Int)) ∧ ∃ (n_5 : Int), Holds (d[ob + Int.toNat (IntKind.wrap IntKind.i64 (Int.tdiv a (8 : Int))) * (1 : Nat)]? = some (AV.i IntKind.u8 n_5)) ∧ Holds ((0 : Int) ≤ IntKind.wrap IntKind.u64 (IntKind.wrap IntKind.i64 ((7 : Int) - Int.tmod a (8 : Int)))) ∧ br (!(Int.tmod (Int.fdiv n_4 ((2 : Int) ^ min (Int.toNat (IntKind.wrap IntKind.u64 (IntKind.wrap IntKind.i64 ((7 : Int) - Int.tmod a (8 : Int))))) (IntKind.bits IntKind.u8))) (2 : Int) == (1 : Int)) == (Int.tmod (Int.fdiv n_5 ((2 : Int) ^ min (Int.toNat (IntKind.wrap IntKind.u64 (IntKind.wrap IntKind.i64 ((7 : Int) - Int.tmod a (8 : Int))))) (IntKind.bits IntKind.u8))) (2 : Int) == (1 : Int))) (R (AV.bo false) [Blk.cells c false, Blk.cells d false]) (Wk (2 : Nat) { t := [AV.sl (0 : Nat) oa len (1 : Nat) ca, AV.sl (1 : Nat) ob lenb (1 : Nat) cb, AV.i IntKind.i64 n, .bad, .bad, .bad, .bad, AV.i IntKind.i64 (IntKind.wrap IntKind.i64 (a + (1 : Int))), .bad, .bad, .bad, .bad, .bad, .bad, .bad, .bad, .bad, .bad, .bad, .bad, .bad, .bad, .bad, .bad, .bad, .bad, .bad, .bad, .bad, .bad, .bad, .bad, .bad, .bad, .bad, .bad, .bad, .bad, .bad, .bad, .bad, .bad, .bad, .bad, .bad, .bad], h := [Blk.cells c false, Blk.cells d false] } { t := [AV.sl (0 : Nat) oa len (1 : Nat) ca, AV.sl (1 : Nat) ob lenb (1 : Nat) cb, AV.i IntKind.i64 n, .bad, .bad, .bad, .bad, AV.i IntKind.i64 (IntKind.wrap IntKind.i64 (a + (1 : Int))), .bad, .bad, .bad, .bad, .bad, .bad, .bad, .bad, .bad, .bad, .bad, .bad, .bad, .bad, .bad, .bad, .bad, .bad, .bad, .bad, .bad, .bad, .bad, .bad, .bad, .bad, .bad, .bad, .bad, .bad, .bad, .bad, .bad, .bad, .bad, .bad, .bad, .bad], h := [Blk.cells c false, Blk.cells d false] } ∧ ∃ (m : Nat), Holds (m < n_2) ∧ I m (IntKind.wrap IntKind.i64 (a + (1 : Int))))) (Wk (2 : Nat) { t := [AV.sl (0 : Nat) oa len (1 : Nat) ca, AV.sl (1 : Nat) ob lenb (1 : Nat) cb, AV.i IntKind.i64 n, .bad, .bad, .bad, .bad, AV.i IntKind.i64 (IntKind.wrap IntKind.i64 (a + (1 : Int))), .bad, .bad, .bad, .bad, .bad, .bad, .bad, .bad, .bad, .bad, .bad, .bad, .bad, .bad, .bad, .bad, .bad, .bad, .bad, .bad, .bad, .bad, .bad, .bad, .bad, .bad, .bad, .bad, .bad, .bad, .bad, .bad, .bad, .bad, .bad, .bad, .bad, .bad], h := [Blk.cells c false, Blk.cells d false] } { t := [AV.sl (0 : Nat) oa len (1 : Nat) ca, AV.sl (1 : Nat) ob lenb (1 : Nat) cb, AV.i IntKind.i64 n, .bad, .bad, .bad, .bad, AV.i IntKind.i64 (IntKind.wrap IntKind.i64 (a + (1 : Int))), .bad, .bad, .bad, .bad, .bad, .bad, .bad, .bad, .bad, .bad, .bad, .bad, .bad, .bad, .bad, .bad, .bad, .bad, .bad, .bad, .bad, .bad, .bad, .bad, .bad, .bad, .bad, .bad, .bad, .bad, .bad, .bad, .bad, .bad, .bad, .bad, .bad, .bad], h := [Blk.cells c false, Blk.cells d false] } ∧ ∃ (m : Nat), Holds (m < n_2) ∧ I m (IntKind.wrap IntKind.i64 (a + (1 : Int)))))) (br (decide (a < n)) (Holds ((0 : Int) ≤ IntKind.wrap IntKind.i64 (Int.tdiv a (8 : Int)) ∧ IntKind.wrap IntKind.i64 (Int.tdiv a (8 : Int)) < (↑len : Int)) ∧ ∃ (n_3 : Int), Holds (c[oa + Int.toNat (IntKind.wrap IntKind.i64 (Int.tdiv a (8 : Int))) * (1 : Nat)]? = some (AV.i IntKind.u8 n_3)) ∧ Holds ((0 : Int) ≤ IntKind.wrap IntKind.u64 (IntKind.wrap IntKind.i64 ((7 : Int) - Int.tmod a (8 : Int)))) ∧ Holds ((0 : Int) ≤ IntKind.wrap IntKind.i64 (Int.tdiv a (8 : Int)) ∧ IntKind.wrap IntKind.i64 (Int.tdiv a (8 : Int)) < (↑lenb : Int)) ∧ ∃ (n_4 : Int), Holds (d[ob + Int.toNat (IntKind.wrap IntKind.i64 (Int.tdiv a (8 : Int))) * (1 : Nat)]? = some (AV.i IntKind.u8 n_4)) ∧ Holds ((0 : Int) ≤ IntKind.wrap IntKind.u64 (IntKind.wrap IntKind.i64 ((7 : Int) - Int.tmod a (8 : Int)))) ∧ br (!(Int.tmod (Int.fdiv n_3 ((2 : Int) ^ min (Int.toNat (IntKind.wrap IntKind.u64 (IntKind.wrap IntKind.i64 ((7 : Int) - Int.tmod a (8 : Int))))) (IntKind.bits IntKind.u8))) (2 : Int) == (1 : Int)) == (Int.tmod (Int.fdiv n_4 ((2 : Int) ^ min (Int.toNat (IntKind.wrap IntKind.u64 (IntKind.wrap IntKind.i64 ((7 : Int) - Int.tmod a (8 : Int))))) (IntKind.bits IntKind.u8))) (2 : Int) == (1 : Int))) (R (AV.bo false) [Blk.cells c false, Blk.cells d false]) (Wk (2 : Nat) { t := [AV.sl (0 : Nat) oa len (1 : Nat) ca, AV.sl (1 : Nat) ob lenb (1 : Nat) cb, AV.i IntKind.i64 n, .bad, .bad, .bad, .bad, AV.i IntKind.i64 (IntKind.wrap IntKind.i64 (a + (1 : Int))), .bad, .bad, .bad, .bad, .bad, .bad, .bad, .bad, .bad, .bad, .bad, .bad, .bad, .bad, .bad, .bad, .bad, .bad, .bad, .bad, .bad, .bad, .bad, .bad, .bad, .bad, .bad, .bad, .bad, .bad, .bad, .bad, .bad, .bad, .bad, .bad, .bad, .bad], h := [Blk.cells c false, Blk.cells d false] } { t := [AV.sl (0 : Nat) oa len (1 : Nat) ca, AV.sl (1 : Nat) ob lenb (1 : Nat) cb, AV.i IntKind.i64 n, .bad, .bad, .bad, .bad, AV.i IntKind.i64 (IntKind.wrap IntKind.i64 (a + (1 : Int))), .bad, .bad, .bad, .bad, .bad, .bad, .bad, .bad, .bad, .bad, .bad, .bad, .bad, .bad, .bad, .bad, .bad, .bad, .bad, .bad, .bad, .bad, .bad, .bad, .bad, .bad, .bad, .bad, .bad, .bad, .bad, .bad, .bad, .bad, .bad, .bad, .bad, .bad], h := [Blk.cells c false, Blk.cells d false] } ∧ ∃ (m : Nat), Holds (m < n_2) ∧ I m (IntKind.wrap IntKind.i64 (a + (1 : Int))))) (Wk (2 : Nat) { t := [AV.sl (0 : Nat) oa len (1 : Nat) ca, AV.sl (1 : Nat) ob lenb (1 : Nat) cb, AV.i IntKind.i64 n, .bad, .bad, .bad, .bad, AV.i IntKind.i64 (IntKind.wrap IntKind.i64 (a + (1 : Int))), .bad, .bad, .bad, .bad, .bad, .bad, .bad, .bad, .bad, .bad, .bad, .bad, .bad, .bad, .bad, .bad, .bad, .bad, .bad, .bad, .bad, .bad, .bad, .bad, .bad, .bad, .bad, .bad, .bad, .bad, .bad, .bad, .bad, .bad, .bad, .bad, .bad, .bad], h := [Blk.cells c false, Blk.cells d false] } { t := [AV.sl (0 : Nat) oa len (1 : Nat) ca, AV.sl (1 : Nat) ob lenb (1 : Nat) cb, AV.i IntKind.i64 n, .bad, .bad, .bad, .bad, AV.i IntKind.i64 (IntKind.wrap IntKind.i64 (a + (1 : Int))), .bad, .bad, .bad, .bad, .bad, .bad, .bad, .bad, .bad, .bad, .bad, .bad, .bad, .bad, .bad, .bad, .bad, .bad, .bad, .bad, .bad, .bad, .bad, .bad, .bad, .bad, .bad, .bad, .bad, .bad, .bad, .bad, .bad, .bad, .bad, .bad, .bad, .bad], h := [Blk.cells c false, Blk.cells d false] } ∧ ∃ (m : Nat), Holds (m < n_2) ∧ I m (IntKind.wrap IntKind.i64 (a + (1 : Int)))))) (R (AV.bo true) [Blk.cells c false, Blk.cells d false])))) := by kernel_rfl
theorem vc34 (H : List Int → List Int → Int → Bool) (p0 p1 p2 p3 p4 p5 p6 p7 p8 p9 p10 p11 p12 p13 p14 p15 n x0 x1 x2 x3 x4 x5 x6 x7 x8 x9 x10 x11 x12 x13 x14 x15 : Int) (R : AV → Hp → Prop) : (wpFn P (tcons 55 (tholdr H) tnil) noW noL 0 Go.Proofs.Tryd.f34 [.ag [.i .u8 p0, .i .u8 p1, .i .u8 p2, .i .u8 p3, .i .u8 p4, .i .u8 p5, .i .u8 p6, .i .u8 p7, .i .u8 p8, .i .u8 p9, .i .u8 p10, .i .u8 p11, .i .u8 p12, .i .u8 p13, .i .u8 p14, .i .u8 p15, .i .i64 n], .ag [.i .u8 x0, .i .u8 x1, .i .u8 x2, .i .u8 x3, .i .u8 x4, .i .u8 x5, .i .u8 x6, .i .u8 x7, .i .u8 x8, .i .u8 x9, .i .u8 x10, .i .u8 x11, .i .u8 x12, .i .u8 x13, .i .u8 x14, .i .u8 x15]] [] R) = (∃ (n_1 : Int), Holds ([AV.i IntKind.u8 p0, AV.i IntKind.u8 p1, AV.i IntKind.u8 p2, AV.i IntKind.u8 p3, AV.i IntKind.u8 p4, AV.i IntKind.u8 p5, AV.i IntKind.u8 p6, AV.i IntKind.u8 p7, AV.i IntKind.u8 p8, AV.i IntKind.u8 p9, AV.i IntKind.u8 p10, AV.i IntKind.u8 p11, AV.i IntKind.u8 p12, AV.i IntKind.u8 p13, AV.i IntKind.u8 p14, AV.i IntKind.u8 p15, AV.i IntKind.i64 n][(16 : Nat)]? = some (AV.i IntKind.i64 n_1)) ∧ Holds (okb ((fun (l : List Int) => p0 :: l) ((fun (l : List Int) => p1 :: l) ((fun (l : List Int) => p2 :: l) ((fun (l : List Int) => p3 :: l) ((fun (l : List Int) => p4 :: l) ((fun (l : List Int) => p5 :: l) ((fun (l : List Int) => p6 :: l) ((fun (l : List Int) => p7 :: l) ((fun (l : List Int) => p8 :: l) ((fun (l : List Int) => p9 :: l) ((fun (l : List Int) => p10 :: l) ((fun (l : List Int) => p11 :: l) ((fun (l : List Int) => p12 :: l) ((fun (l : List Int) => p13 :: l) ((fun (l : List Int) => p14 :: l) ((fun (l : List Int) => p15 :: l) [])))))))))))))))) ∧ okb ((fun (l : List Int) => x0 :: l) ((fun (l : List Int) => x1 :: l) ((fun (l : List Int) => x2 :: l) ((fun (l : List Int) => x3 :: l) ((fun (l : List Int) => x4 :: l) ((fun (l : List Int) => x5 :: l) ((fun (l : List Int) => x6 :: l) ((fun (l : List Int) => x7 :: l) ((fun (l : List Int) => x8 :: l) ((fun (l : List Int) => x9 :: l) ((fun (l : List Int) => x10 :: l) ((fun (l : List Int) => x11 :: l) ((fun (l : List Int) => x12 :: l) ((fun (l : List Int) => x13 :: l) ((fun (l : List Int) => x14 :: l) ((fun (l : List Int) => x15 :: l) [])))))))))))))))) ∧ List.length ((fun (l : List Int) => p0 :: l) ((fun (l : List Int) => p1 :: l) ((fun (l : List Int) => p2 :: l) ((fun (l : List Int) => p3 :: l) ((fun (l : List Int) => p4 :: l) ((fun (l : List Int) => p5 :: l) ((fun (l : List Int) => p6 :: l) ((fun (l : List Int) => p7 :: l) ((fun (l : List Int) => p8 :: l) ((fun (l : List Int) => p9 :: l) ((fun (l : List Int) => p10 :: l) ((fun (l : List Int) => p11 :: l) ((fun (l : List Int) => p12 :: l) ((fun (l : List Int) => p13 :: l) ((fun (l : List Int) => p14 :: l) ((fun (l : List Int) => p15 :: l) [])))))))))))))))) = (16 : Nat) - (0 : Nat) ∧ List.length ((fun (l : List Int) => x0 :: l) ((fun (l : List Int) => x1 :: l) ((fun (l : List Int) => x2 :: l) ((fun (l : List Int) => x3 :: l) ((fun (l : List Int) => x4 :: l) ((fun (l : List Int) => x5 :: l) ((fun (l : List Int) => x6 :: l) ((fun (l : List Int) => x7 :: l) ((fun (l : List Int) => x8 :: l) ((fun (l : List Int) => x9 :: l) ((fun (l : List Int) => x10 :: l) ((fun (l : List Int) => x11 :: l) ((fun (l : List Int) => x12 :: l) ((fun (l : List Int) => x13 :: l) ((fun (l : List Int) => x14 :: l) ((fun (l : List Int) => x15 :: l) [])))))))))))))))) = (16 : Nat) - (0 : Nat) ∧ (16 : Nat) - (0 : Nat) = (16 : Nat) - (0 : Nat) ∧ (16 : Nat) - (0 : Nat) ≤ (16 : Nat) ∧ (0 : Nat) ≠ (1 : Nat)) ∧ R (AV.bo (H [p0, p1, p2, p3, p4, p5, p6, p7, p8, p9, p10, p11, p12, p13, p14, p15] [x0, x1, x2, x3, x4, x5, x6, x7, x8, x9, x10, x11, x12, x13, x14, x15] n_1)) [Blk.cells [AV.i IntKind.u8 p0, AV.i IntKind.u8 p1, AV.i IntKind.u8 p2, AV.i IntKind.u8 p3, AV.i IntKind.u8 p4, AV.i IntKind.u8 p5, AV.i IntKind.u8 p6, AV.i IntKind.u8 p7, AV.i IntKind.u8 p8, AV.i IntKind.u8 p9, AV.i IntKind.u8 p10, AV.i IntKind.u8 p11, AV.i IntKind.u8 p12, AV.i IntKind.u8 p13, AV.i IntKind.u8 p14, AV.i IntKind.u8 p15, AV.i IntKind.i64 n] true, Blk.cells [AV.i IntKind.u8 x0, AV.i IntKind.u8 x1, AV.i IntKind.u8 x2, AV.i IntKind.u8 x3, AV.i IntKind.u8 x4, AV.i IntKind.u8 x5, AV.i IntKind.u8 x6, AV.i IntKind.u8 x7, AV.i IntKind.u8 x8, AV.i IntKind.u8 x9, AV.i IntKind.u8 x10, AV.i IntKind.u8 x11, AV.i IntKind.u8 x12, AV.i IntKind.u8 x13, AV.i IntKind.u8 x14, AV.i IntKind.u8 x15] true]) := by kernel_rfl
theorem vc33 (H : List Int → List Int → Int → Bool) (p0 p1 p2 p3 n x0 x1 x2 x3 : Int) (R : AV → Hp → Prop) : (wpFn P (tcons 55 (tholdr H) tnil) noW noL 0 Go.Proofs.Tryd.f33 [.ag [.i .u8 p0, .i .u8 p1, .i .u8 p2, .i .u8 p3, .i .i64 n], .ag [.i .u8 x0, .i .u8 x1, .i .u8 x2, .i .u8 x3]] [] R) = (∃ (n_1 : Int), Holds ([AV.i IntKind.u8 p0, AV.i IntKind.u8 p1, AV.i IntKind.u8 p2, AV.i IntKind.u8 p3, AV.i IntKind.i64 n][(4 : Nat)]? = some (AV.i IntKind.i64 n_1)) ∧ Holds (okb ((fun (l : List Int) => p0 :: l) ((fun (l : List Int) => p1 :: l) ((fun (l : List Int) => p2 :: l) ((fun (l : List Int) => p3 :: l) [])))) ∧ okb ((fun (l : List Int) => x0 :: l) ((fun (l : List Int) => x1 :: l) ((fun (l : List Int) => x2 :: l) ((fun (l : List Int) => x3 :: l) [])))) ∧ List.length ((fun (l : List Int) => p0 :: l) ((fun (l : List Int) => p1 :: l) ((fun (l : List Int) => p2 :: l) ((fun (l : List Int) => p3 :: l) [])))) = (4 : Nat) - (0 : Nat) ∧ List.length ((fun (l : List Int) => x0 :: l) ((fun (l : List Int) => x1 :: l) ((fun (l : List Int) => x2 :: l) ((fun (l : List Int) => x3 :: l) [])))) = (4 : Nat) - (0 : Nat) ∧ (4 : Nat) - (0 : Nat) = (4 : Nat) - (0 : Nat) ∧ (4 : Nat) - (0 : Nat) ≤ (16 : Nat) ∧ (0 : Nat) ≠ (1 : Nat)) ∧ R (AV.bo (H [p0, p1, p2, p3] [x0, x1, x2, x3] n_1)) [Blk.cells [AV.i IntKind.u8 p0, AV.i IntKind.u8 p1, AV.i IntKind.u8 p2, AV.i IntKind.u8 p3, AV.i IntKind.i64 n] true, Blk.cells [AV.i IntKind.u8 x0, AV.i IntKind.u8 x1, AV.i IntKind.u8 x2, AV.i IntKind.u8 x3] true]) := by kernel_rfl
/-- An address' bit. -/
def bitv (x : Int) (h : Nat) : Bool := Int.tmod (Int.fdiv x ((2 : Int) ^ (7 - h))) 2 == 1
theorem bitv_eq (X h : Nat) : bitv (X : Int) h = X.testBit (7 - h) := by
  unfold bitv
  have p : ((2 : Int) ^ (7 - h)) = ((2 ^ (7 - h) : Nat) : Int) := by norm_cast
  rw [p, fd _ _ (Int.natCast_nonneg _), ← Int.natCast_ediv, Int.tmod_eq_emod_of_nonneg (Int.natCast_nonneg _), Nat.testBit_eq_decide_div_mod_eq, Bool.eq_iff_iff]
  simp only [beq_iff_eq, decide_eq_true_eq]
  omega
theorem byte_bits {X Y k : Nat} (hX : X < 256) (hY : Y < 256) (hk : k ≤ 8) : (X % 2 ^ (8 - k) = 0 ∧ X / 2 ^ (8 - k) = Y / 2 ^ (8 - k)) ↔ ∀ h, h < 8 → (k ≤ h → X.testBit (7 - h) = false) ∧ (h < k → X.testBit (7 - h) = Y.testBit (7 - h)) := by
  constructor
  · rintro ⟨h0, h1⟩ h hh
    refine ⟨fun hkh => ?_, fun hkh => ?_⟩
    · have t := Nat.testBit_mod_two_pow X (8 - k) (7 - h)
      rw [h0, Nat.zero_testBit, decide_eq_true (show 7 - h < 8 - k by omega), Bool.true_and] at t
      exact t.symm
    · have t1 := Nat.testBit_div_two_pow X (n := 8 - k) (k - 1 - h)
      have t2 := Nat.testBit_div_two_pow Y (n := 8 - k) (k - 1 - h)
      rw [show k - 1 - h + (8 - k) = 7 - h by omega] at t1 t2
      rw [← t1, ← t2, h1]
  · intro H
    refine ⟨Nat.eq_of_testBit_eq fun i => ?_, Nat.eq_of_testBit_eq fun i => ?_⟩
    · rw [Nat.testBit_mod_two_pow, Nat.zero_testBit]
      by_cases hi : i < 8 - k
      · have := (H (7 - i) (by omega)).1 (by omega)
        rw [show 7 - (7 - i) = i by omega] at this
        rw [this, Bool.and_false]
      · rw [decide_eq_false hi, Bool.false_and]
    · rw [Nat.testBit_div_two_pow, Nat.testBit_div_two_pow]
      by_cases hi : 8 - k + i < 8
      · have := (H (k - 1 - i) (by omega)).2 (by omega)
        rw [show 7 - (k - 1 - i) = i + (8 - k) by omega] at this
        exact this
      · have p : 2 ^ 8 ≤ 2 ^ (i + (8 - k)) := Nat.pow_le_pow_right (by decide) (by omega)
        have e : (2 : Nat) ^ 8 = 256 := rfl
        rw [Nat.testBit_lt_two_pow (by omega), Nat.testBit_lt_two_pow (by omega)]
theorem byte_bitsI {x y : Int} {k : Nat} (hx : 0 ≤ x ∧ x ≤ 255) (hy : 0 ≤ y ∧ y ≤ 255) (hk : k ≤ 8) : (x % 2 ^ (8 - k) = 0 ∧ x / 2 ^ (8 - k) = y / 2 ^ (8 - k)) ↔ ∀ h, h < 8 → (k ≤ h → bitv x h = false) ∧ (h < k → bitv x h = bitv y h) := by
  obtain ⟨X, rfl⟩ : ∃ X : Nat, x = X := ⟨x.toNat, by omega⟩
  obtain ⟨Y, rfl⟩ : ∃ Y : Nat, y = Y := ⟨y.toNat, by omega⟩
  have p : ((2 : Int) ^ (8 - k)) = ((2 ^ (8 - k) : Nat) : Int) := by norm_cast
  rw [p, ← Int.natCast_ediv, ← Int.natCast_ediv, ← Int.natCast_emod]
  simp only [bitv_eq]
  rw [← byte_bits (by omega) (by omega) hk]
  omega
def okbit (x y : List Int) (n : Int) (j : Nat) : Prop := (n ≤ j → bitv (x.getD (j / 8) 0) (j % 8) = false) ∧ ((j : Int) < n → bitv (x.getD (j / 8) 0) (j % 8) = bitv (y.getD (j / 8) 0) (j % 8))
theorem Hn_bits {x y : List Int} {n : Int} {len : Nat} (hl : x.length = len) (hy : y.length = len) (hox : okb x) (hoy : okb y) : Hn (8 * len) x n y = true ↔ (0 ≤ n ∧ n ≤ 8 * len) ∧ ∀ j, j < 8 * len → okbit x y n j := by
  have core : (0 ≤ n ∧ n ≤ 8 * len) → ((Bv x n = true ∧ Hv x y n = true) ↔ ∀ j, j < 8 * len → okbit x y n j) := by
    intro hn
    rw [Bv, Hv, List.all_eq_true, List.all_eq_true]
    constructor
    · rintro ⟨hb, hh⟩ j hj
      have hi : j / 8 < x.length := by omega
      have b := of_decide_eq_true (hb (j / 8) (List.mem_range.2 hi))
      have c := of_decide_eq_true (hh (j / 8) (List.mem_range.2 hi))
      have := (byte_bitsI (hox _ hi) (hoy _ (by omega)) (kk_le n (j / 8))).1 ⟨b, c⟩ (j % 8) (by omega)
      refine ⟨fun h => this.1 (by unfold kk; omega), fun h => this.2 (by unfold kk; omega)⟩
    · intro H
      have all (i : Nat) (hi : i < x.length) := (byte_bitsI (hox i hi) (hoy i (by omega)) (kk_le n i)).2 fun h hh => by
        have := H (8 * i + h) (by omega)
        rw [okbit, show (8 * i + h) / 8 = i by omega, show (8 * i + h) % 8 = h by omega] at this
        exact ⟨fun g => this.1 (by unfold kk at g; omega), fun g => this.2 (by unfold kk at g; omega)⟩
      exact ⟨fun i hi => decide_eq_true (all i (List.mem_range.1 hi)).1, fun i hi => decide_eq_true (all i (List.mem_range.1 hi)).2⟩
  rw [Hn, Rv, Bool.and_eq_true, Bool.and_eq_true, Bool.and_eq_true, decide_eq_true_eq, decide_eq_true_eq]
  constructor
  · rintro ⟨⟨h0, h1, h2⟩, h3⟩
    exact ⟨⟨h0, h1⟩, (core ⟨h0, h1⟩).1 ⟨h2, h3⟩⟩
  · rintro ⟨h, h'⟩
    obtain ⟨h2, h3⟩ := (core h).2 h'
    exact ⟨⟨h.1, h.2, h2⟩, h3⟩
theorem run55 {oa ob len lenb : Nat} {ca cb : Option Nat} {n : Int} {c d : List AV} {x y : List Int} (hl : x.length = len) (hlb : lenb = len) (hy : y.length = len) (h16 : len ≤ 16) (hox : okb x) (hoy : okb y)
    (hc : ∀ i, i < len → c[oa + i * 1]? = some (.i .u8 (x.getD i 0))) (hd : ∀ i, i < len → d[ob + i * 1]? = some (.i .u8 (y.getD i 0))) :
    wpFn P T55 noW (head55 oa ob len lenb ca cb n c d) 2 Go.Proofs.Tryd.f55 [.sl 0 oa len 1 ca, .sl 1 ob lenb 1 cb, .i .i64 n] [.cells c false, .cells d false] fun v _ => v = .bo (Hn (8 * len) x n y) := by
  subst hlb
  have hb := Hn_bits (n := n) hl hy hox hoy
  have w8l : IntKind.wrap .i64 ((8 : Int) * (lenb : Int)) = 8 * lenb := i64w (by omega) (by omega)
  rw [vc55, w8l]
  have no (h : ¬((0 ≤ n ∧ n ≤ 8 * lenb) ∧ ∀ j, j < 8 * lenb → okbit x y n j)) : AV.bo false = .bo (Hn (8 * lenb) x n y) := by
    rw [Bool.eq_false_iff.2 (fun t => h (hb.1 t))]
  refine br_intro (fun h => no fun g => ?_) (fun h0 => br_intro (fun h => no fun g => ?_) (fun h1 => ?_))
  · have := of_decide_eq_true h; omega
  · have := of_decide_eq_true h; omega
  have h0 := of_decide_eq_false h0
  have h1 := of_decide_eq_false h1
  refine ⟨Wk.refl _ _, fun m i => ∃ k : Nat, i = k ∧ k + m = 8 * lenb ∧ ∀ j, j < k → okbit x y n j, 8 * lenb, ⟨0, rfl, by omega, fun j hj => absurd hj (Nat.not_lt_zero j)⟩, ?_⟩
  rintro i m ⟨k, rfl, hk, hall⟩
  refine br_intro (fun hi => ?_) (fun hi => ?_)
  · have hi := of_decide_eq_true hi
    have ix : IntKind.wrap .i64 (Int.tdiv (k : Int) 8) = ((k / 8 : Nat) : Int) := by
      rcases idx_eq k with h | h
      · exact h
      · omega
    have hkl : k / 8 < lenb := by omega
    have u0 : 0 ≤ IntKind.wrap .u64 (IntKind.wrap .i64 (7 - Int.tmod (k : Int) 8)) := by rw [IntKind.wrap_u64]; omega
    have ix0 : 0 ≤ IntKind.wrap .i64 (Int.tdiv (k : Int) 8) ∧ IntKind.wrap .i64 (Int.tdiv (k : Int) 8) < (lenb : Int) := by rw [ix]; omega
    have gc : c[oa + Int.toNat (IntKind.wrap .i64 (Int.tdiv (k : Int) 8)) * 1]? = some (.i .u8 (x.getD (k / 8) 0)) := by rw [ix, Int.toNat_natCast]; exact hc _ hkl
    have gd : d[ob + Int.toNat (IntKind.wrap .i64 (Int.tdiv (k : Int) 8)) * 1]? = some (.i .u8 (y.getD (k / 8) 0)) := by rw [ix, Int.toNat_natCast]; exact hd _ hkl
    have ex (z : Int) : (Int.tmod (Int.fdiv z ((2 : Int) ^ min (Int.toNat (IntKind.wrap .u64 (IntKind.wrap .i64 (7 - Int.tmod (k : Int) 8)))) (IntKind.bits .u8))) 2 == 1) = bitv z (k % 8) := by rw [shift_eq]; rfl
    have step (h : okbit x y n k) : ∃ m' : Nat, Holds (m' < m) ∧ ∃ k' : Nat, IntKind.wrap .i64 ((k : Int) + 1) = k' ∧ k' + m' = 8 * lenb ∧ ∀ j, j < k' → okbit x y n j := by
      refine ⟨m - 1, ⟨by omega⟩, k + 1, i64w (x := (k : Int) + 1) (by omega) (by omega), by omega, fun j hj => ?_⟩
      rcases Nat.lt_or_ge j k with e | e
      · exact hall j e
      · obtain rfl : j = k := by omega
        exact h
    have bad (h : ¬okbit x y n k) : AV.bo false = .bo (Hn (8 * lenb) x n y) := no fun g => h (g.2 k (by omega))
    simp only [ex]
    refine br_intro (fun hn => ?_) (fun hn => ?_)
    · have hn := of_decide_eq_true hn
      refine ⟨⟨ix0⟩, _, ⟨gc⟩, ⟨u0⟩, br_intro (fun hb => bad fun h => ?_) (fun hb => ?_)⟩
      · rw [h.1 hn] at hb; cases hb
      · refine br_intro (fun hlt => ?_) (fun _ => ⟨Wk.refl _ _, step ⟨fun _ => hb, fun g => ?_⟩⟩)
        · have := of_decide_eq_true hlt; omega
        · omega
    · have hn := of_decide_eq_false hn
      refine br_intro (fun hlt => ?_) (fun hlt => ?_)
      · refine ⟨⟨ix0⟩, _, ⟨gc⟩, ⟨u0⟩, ⟨ix0⟩, _, ⟨gd⟩, ⟨u0⟩, br_intro (fun hb => bad fun h => ?_) (fun hb => ⟨Wk.refl _ _, step ⟨fun g => ?_, fun _ => ?_⟩⟩)⟩
        · rw [h.2 (of_decide_eq_true hlt), beq_self_eq_true] at hb; cases hb
        · omega
        · simpa using hb
      · have := of_decide_eq_false hlt; omega
  · have hi := of_decide_eq_false hi
    rw [hb.2 ⟨by omega, fun j hj => hall j (by omega)⟩]
