/- Prefixes: right, holds -/
import Derived.Test.YtohaalilplngnaaDoorClassHo
set_option linter.unusedVariables false
set_option linter.unusedSimpArgs false
open Go Go.Proofs.YtohaalilplngnaaDoor.Eng Go.RowKit
namespace Go.Proofs.YtohaalilplngnaaDoor.ClassRun
def tbare (B : List Int → Int → Bool) (args : List AV) (h : Hp) (K : AV → Hp → Prop) : Prop := match args with
  | [.sl id off len 1 cap, .i .i64 n] => match h.getD id .dead with
    | .cells c wr => optQ (numsOf ((c.drop off).take len)) fun l => Holds (okb l ∧ l.length = len ∧ len ≤ 16 ∧ 0 ≤ n ∧ n ≤ 128) ∧ K (.bo (B l n)) h
    | _ => False
  | _ => False
def tholds (B : List Int → List Int → Int → Bool) (args : List AV) (h : Hp) (K : AV → Hp → Prop) : Prop := match args with
  | [.sl ia oa la 1 ca, .sl ib ob lb 1 cb, .i .i64 n] => match h.getD ia .dead, h.getD ib .dead with
    | .cells c wr, .cells d wr' => optQ (numsOf ((c.drop oa).take la)) fun x => optQ (numsOf ((d.drop ob).take lb)) fun y => Holds (okb x ∧ okb y ∧ x.length = la ∧ y.length = la ∧ lb = la ∧ la ≤ 16 ∧ 0 ≤ n ∧ n ≤ 128 ∧ ia ≠ ib) ∧ K (.bo (B x y n)) h
    | _, _ => False
  | _ => False
/-- What a prefix answers. -/
def tright (k : Nat) (B : List Int → Int → Bool) (args : List AV) (h : Hp) (K : AV → Hp → Prop) : Prop := match args with
  | [.ag xs] => match xs.getLast? with
    | some (.i .i64 n) => optQ (numsOf xs.dropLast) fun l => Holds (okb l ∧ l.length = k) ∧ K (.bo (B l n)) h
    | _ => False
  | _ => False
theorem vc47 (B : List Int → Int → Bool) (p0 p1 p2 p3 p4 p5 p6 p7 p8 p9 p10 p11 p12 p13 p14 p15 n : Int) (R : AV → Hp → Prop) : (wpFn P (tcons 68 (tbare B) tnil) noW noL 0 Go.Proofs.Tryd.f47 [.ag [.i .u8 p0, .i .u8 p1, .i .u8 p2, .i .u8 p3, .i .u8 p4, .i .u8 p5, .i .u8 p6, .i .u8 p7, .i .u8 p8, .i .u8 p9, .i .u8 p10, .i .u8 p11, .i .u8 p12, .i .u8 p13, .i .u8 p14, .i .u8 p15, .i .i64 n]] [] R) = (∃ (n_1 : Int), Holds ([AV.i IntKind.u8 p0, AV.i IntKind.u8 p1, AV.i IntKind.u8 p2, AV.i IntKind.u8 p3, AV.i IntKind.u8 p4, AV.i IntKind.u8 p5, AV.i IntKind.u8 p6, AV.i IntKind.u8 p7, AV.i IntKind.u8 p8, AV.i IntKind.u8 p9, AV.i IntKind.u8 p10, AV.i IntKind.u8 p11, AV.i IntKind.u8 p12, AV.i IntKind.u8 p13, AV.i IntKind.u8 p14, AV.i IntKind.u8 p15, AV.i IntKind.i64 n][(16 : Nat)]? = some (AV.i IntKind.i64 n_1)) ∧ br (decide (n_1 ≥ (0 : Int))) (∃ (n_2 : Int), Holds ([AV.i IntKind.u8 p0, AV.i IntKind.u8 p1, AV.i IntKind.u8 p2, AV.i IntKind.u8 p3, AV.i IntKind.u8 p4, AV.i IntKind.u8 p5, AV.i IntKind.u8 p6, AV.i IntKind.u8 p7, AV.i IntKind.u8 p8, AV.i IntKind.u8 p9, AV.i IntKind.u8 p10, AV.i IntKind.u8 p11, AV.i IntKind.u8 p12, AV.i IntKind.u8 p13, AV.i IntKind.u8 p14, AV.i IntKind.u8 p15, AV.i IntKind.i64 n][(16 : Nat)]? = some (AV.i IntKind.i64 n_2)) ∧ br (decide (n_2 ≤ (128 : Int))) (∃ (n_3 : Int), Holds ([AV.i IntKind.u8 p0, AV.i IntKind.u8 p1, AV.i IntKind.u8 p2, AV.i IntKind.u8 p3, AV.i IntKind.u8 p4, AV.i IntKind.u8 p5, AV.i IntKind.u8 p6, AV.i IntKind.u8 p7, AV.i IntKind.u8 p8, AV.i IntKind.u8 p9, AV.i IntKind.u8 p10, AV.i IntKind.u8 p11, AV.i IntKind.u8 p12, AV.i IntKind.u8 p13, AV.i IntKind.u8 p14, AV.i IntKind.u8 p15, AV.i IntKind.i64 n][(16 : Nat)]? = some (AV.i IntKind.i64 n_3)) ∧ Holds (okb ((fun (l : List Int) => p0 :: l) ((fun (l : List Int) => p1 :: l) ((fun (l : List Int) => p2 :: l) ((fun (l : List Int) => p3 :: l) ((fun (l : List Int) => p4 :: l) ((fun (l : List Int) => p5 :: l) ((fun (l : List Int) => p6 :: l) ((fun (l : List Int) => p7 :: l) ((fun (l : List Int) => p8 :: l) ((fun (l : List Int) => p9 :: l) ((fun (l : List Int) => p10 :: l) ((fun (l : List Int) => p11 :: l) ((fun (l : List Int) => p12 :: l) ((fun (l : List Int) => p13 :: l) ((fun (l : List Int) => p14 :: l) ((fun (l : List Int) => p15 :: l) [])))))))))))))))) ∧ List.length ((fun (l : List Int) => p0 :: l) ((fun (l : List Int) => p1 :: l) ((fun (l : List Int) => p2 :: l) ((fun (l : List Int) => p3 :: l) ((fun (l : List Int) => p4 :: l) ((fun (l : List Int) => p5 :: l) ((fun (l : List Int) => p6 :: l) ((fun (l : List Int) => p7 :: l) ((fun (l : List Int) => p8 :: l) ((fun (l : List Int) => p9 :: l) ((fun (l : List Int) => p10 :: l) ((fun (l : List Int) => p11 :: l) ((fun (l : List Int) => p12 :: l) ((fun (l : List Int) => p13 :: l) ((fun (l : List Int) => p14 :: l) ((fun (l : List Int) => p15 :: l) [])))))))))))))))) = (16 : Nat) - (0 : Nat) ∧ (16 : Nat) - (0 : Nat) ≤ (16 : Nat) ∧ (0 : Int) ≤ n_3 ∧ n_3 ≤ (128 : Int)) ∧ R (AV.bo (B [p0, p1, p2, p3, p4, p5, p6, p7, p8, p9, p10, p11, p12, p13, p14, p15] n_3)) [Blk.cells [AV.i IntKind.u8 p0, AV.i IntKind.u8 p1, AV.i IntKind.u8 p2, AV.i IntKind.u8 p3, AV.i IntKind.u8 p4, AV.i IntKind.u8 p5, AV.i IntKind.u8 p6, AV.i IntKind.u8 p7, AV.i IntKind.u8 p8, AV.i IntKind.u8 p9, AV.i IntKind.u8 p10, AV.i IntKind.u8 p11, AV.i IntKind.u8 p12, AV.i IntKind.u8 p13, AV.i IntKind.u8 p14, AV.i IntKind.u8 p15, AV.i IntKind.i64 n] true]) (R (AV.bo false) [Blk.cells [AV.i IntKind.u8 p0, AV.i IntKind.u8 p1, AV.i IntKind.u8 p2, AV.i IntKind.u8 p3, AV.i IntKind.u8 p4, AV.i IntKind.u8 p5, AV.i IntKind.u8 p6, AV.i IntKind.u8 p7, AV.i IntKind.u8 p8, AV.i IntKind.u8 p9, AV.i IntKind.u8 p10, AV.i IntKind.u8 p11, AV.i IntKind.u8 p12, AV.i IntKind.u8 p13, AV.i IntKind.u8 p14, AV.i IntKind.u8 p15, AV.i IntKind.i64 n] true])) (R (AV.bo false) [Blk.cells [AV.i IntKind.u8 p0, AV.i IntKind.u8 p1, AV.i IntKind.u8 p2, AV.i IntKind.u8 p3, AV.i IntKind.u8 p4, AV.i IntKind.u8 p5, AV.i IntKind.u8 p6, AV.i IntKind.u8 p7, AV.i IntKind.u8 p8, AV.i IntKind.u8 p9, AV.i IntKind.u8 p10, AV.i IntKind.u8 p11, AV.i IntKind.u8 p12, AV.i IntKind.u8 p13, AV.i IntKind.u8 p14, AV.i IntKind.u8 p15, AV.i IntKind.i64 n] true])) := by kernel_rfl
theorem vc49 (B : List Int → Int → Bool) (p0 p1 p2 p3 n : Int) (R : AV → Hp → Prop) : (wpFn P (tcons 68 (tbare B) tnil) noW noL 0 Go.Proofs.Tryd.f49 [.ag [.i .u8 p0, .i .u8 p1, .i .u8 p2, .i .u8 p3, .i .i64 n]] [] R) = (∃ (n_1 : Int), Holds ([AV.i IntKind.u8 p0, AV.i IntKind.u8 p1, AV.i IntKind.u8 p2, AV.i IntKind.u8 p3, AV.i IntKind.i64 n][(4 : Nat)]? = some (AV.i IntKind.i64 n_1)) ∧ br (decide (n_1 ≥ (0 : Int))) (∃ (n_2 : Int), Holds ([AV.i IntKind.u8 p0, AV.i IntKind.u8 p1, AV.i IntKind.u8 p2, AV.i IntKind.u8 p3, AV.i IntKind.i64 n][(4 : Nat)]? = some (AV.i IntKind.i64 n_2)) ∧ br (decide (n_2 ≤ (32 : Int))) (∃ (n_3 : Int), Holds ([AV.i IntKind.u8 p0, AV.i IntKind.u8 p1, AV.i IntKind.u8 p2, AV.i IntKind.u8 p3, AV.i IntKind.i64 n][(4 : Nat)]? = some (AV.i IntKind.i64 n_3)) ∧ Holds (okb ((fun (l : List Int) => p0 :: l) ((fun (l : List Int) => p1 :: l) ((fun (l : List Int) => p2 :: l) ((fun (l : List Int) => p3 :: l) [])))) ∧ List.length ((fun (l : List Int) => p0 :: l) ((fun (l : List Int) => p1 :: l) ((fun (l : List Int) => p2 :: l) ((fun (l : List Int) => p3 :: l) [])))) = (4 : Nat) - (0 : Nat) ∧ (4 : Nat) - (0 : Nat) ≤ (16 : Nat) ∧ (0 : Int) ≤ n_3 ∧ n_3 ≤ (128 : Int)) ∧ R (AV.bo (B [p0, p1, p2, p3] n_3)) [Blk.cells [AV.i IntKind.u8 p0, AV.i IntKind.u8 p1, AV.i IntKind.u8 p2, AV.i IntKind.u8 p3, AV.i IntKind.i64 n] true]) (R (AV.bo false) [Blk.cells [AV.i IntKind.u8 p0, AV.i IntKind.u8 p1, AV.i IntKind.u8 p2, AV.i IntKind.u8 p3, AV.i IntKind.i64 n] true])) (R (AV.bo false) [Blk.cells [AV.i IntKind.u8 p0, AV.i IntKind.u8 p1, AV.i IntKind.u8 p2, AV.i IntKind.u8 p3, AV.i IntKind.i64 n] true])) := by kernel_rfl
theorem vc20 (B : List Int → Int → Bool) (H : List Int → List Int → Int → Bool) (p0 p1 p2 p3 p4 p5 p6 p7 p8 p9 p10 p11 p12 p13 p14 p15 n x0 x1 x2 x3 x4 x5 x6 x7 x8 x9 x10 x11 x12 x13 x14 x15 : Int) (R : AV → Hp → Prop) : (wpFn P (tcons 47 (tright 16 B) (tcons 48 (tholds H) tnil)) noW noL 0 Go.Proofs.Tryd.f20 [.ag [.i .u8 p0, .i .u8 p1, .i .u8 p2, .i .u8 p3, .i .u8 p4, .i .u8 p5, .i .u8 p6, .i .u8 p7, .i .u8 p8, .i .u8 p9, .i .u8 p10, .i .u8 p11, .i .u8 p12, .i .u8 p13, .i .u8 p14, .i .u8 p15, .i .i64 n], .ag [.i .u8 x0, .i .u8 x1, .i .u8 x2, .i .u8 x3, .i .u8 x4, .i .u8 x5, .i .u8 x6, .i .u8 x7, .i .u8 x8, .i .u8 x9, .i .u8 x10, .i .u8 x11, .i .u8 x12, .i .u8 x13, .i .u8 x14, .i .u8 x15]] [] R) = (Holds (okb ((fun (l : List Int) => p0 :: l) ((fun (l : List Int) => p1 :: l) ((fun (l : List Int) => p2 :: l) ((fun (l : List Int) => p3 :: l) ((fun (l : List Int) => p4 :: l) ((fun (l : List Int) => p5 :: l) ((fun (l : List Int) => p6 :: l) ((fun (l : List Int) => p7 :: l) ((fun (l : List Int) => p8 :: l) ((fun (l : List Int) => p9 :: l) ((fun (l : List Int) => p10 :: l) ((fun (l : List Int) => p11 :: l) ((fun (l : List Int) => p12 :: l) ((fun (l : List Int) => p13 :: l) ((fun (l : List Int) => p14 :: l) ((fun (l : List Int) => p15 :: l) [])))))))))))))))) ∧ List.length ((fun (l : List Int) => p0 :: l) ((fun (l : List Int) => p1 :: l) ((fun (l : List Int) => p2 :: l) ((fun (l : List Int) => p3 :: l) ((fun (l : List Int) => p4 :: l) ((fun (l : List Int) => p5 :: l) ((fun (l : List Int) => p6 :: l) ((fun (l : List Int) => p7 :: l) ((fun (l : List Int) => p8 :: l) ((fun (l : List Int) => p9 :: l) ((fun (l : List Int) => p10 :: l) ((fun (l : List Int) => p11 :: l) ((fun (l : List Int) => p12 :: l) ((fun (l : List Int) => p13 :: l) ((fun (l : List Int) => p14 :: l) ((fun (l : List Int) => p15 :: l) [])))))))))))))))) = (16 : Nat)) ∧ br (B [p0, p1, p2, p3, p4, p5, p6, p7, p8, p9, p10, p11, p12, p13, p14, p15] n) (∃ (n_1 : Int), Holds ([AV.i IntKind.u8 p0, AV.i IntKind.u8 p1, AV.i IntKind.u8 p2, AV.i IntKind.u8 p3, AV.i IntKind.u8 p4, AV.i IntKind.u8 p5, AV.i IntKind.u8 p6, AV.i IntKind.u8 p7, AV.i IntKind.u8 p8, AV.i IntKind.u8 p9, AV.i IntKind.u8 p10, AV.i IntKind.u8 p11, AV.i IntKind.u8 p12, AV.i IntKind.u8 p13, AV.i IntKind.u8 p14, AV.i IntKind.u8 p15, AV.i IntKind.i64 n][(16 : Nat)]? = some (AV.i IntKind.i64 n_1)) ∧ Holds (okb ((fun (l : List Int) => p0 :: l) ((fun (l : List Int) => p1 :: l) ((fun (l : List Int) => p2 :: l) ((fun (l : List Int) => p3 :: l) ((fun (l : List Int) => p4 :: l) ((fun (l : List Int) => p5 :: l) ((fun (l : List Int) => p6 :: l) ((fun (l : List Int) => p7 :: l) ((fun (l : List Int) => p8 :: l) ((fun (l : List Int) => p9 :: l) ((fun (l : List Int) => p10 :: l) ((fun (l : List Int) => p11 :: l) ((fun (l : List Int) => p12 :: l) ((fun (l : List Int) => p13 :: l) ((fun (l : List Int) => p14 :: l) ((fun (l : List Int) => p15 :: l) [])))))))))))))))) ∧ okb ((fun (l : List Int) => x0 :: l) ((fun (l : List Int) => x1 :: l) ((fun (l : List Int) => x2 :: l) ((fun (l : List Int) => x3 :: l) ((fun (l : List Int) => x4 :: l) ((fun (l : List Int) => x5 :: l) ((fun (l : List Int) => x6 :: l) ((fun (l : List Int) => x7 :: l) ((fun (l : List Int) => x8 :: l) ((fun (l : List Int) => x9 :: l) ((fun (l : List Int) => x10 :: l) ((fun (l : List Int) => x11 :: l) ((fun (l : List Int) => x12 :: l) ((fun (l : List Int) => x13 :: l) ((fun (l : List Int) => x14 :: l) ((fun (l : List Int) => x15 :: l) [])))))))))))))))) ∧ List.length ((fun (l : List Int) => p0 :: l) ((fun (l : List Int) => p1 :: l) ((fun (l : List Int) => p2 :: l) ((fun (l : List Int) => p3 :: l) ((fun (l : List Int) => p4 :: l) ((fun (l : List Int) => p5 :: l) ((fun (l : List Int) => p6 :: l) ((fun (l : List Int) => p7 :: l) ((fun (l : List Int) => p8 :: l) ((fun (l : List Int) => p9 :: l) ((fun (l : List Int) => p10 :: l) ((fun (l : List Int) => p11 :: l) ((fun (l : List Int) => p12 :: l) ((fun (l : List Int) => p13 :: l) ((fun (l : List Int) => p14 :: l) ((fun (l : List Int) => p15 :: l) [])))))))))))))))) = (16 : Nat) - (0 : Nat) ∧ List.length ((fun (l : List Int) => x0 :: l) ((fun (l : List Int) => x1 :: l) ((fun (l : List Int) => x2 :: l) ((fun (l : List Int) => x3 :: l) ((fun (l : List Int) => x4 :: l) ((fun (l : List Int) => x5 :: l) ((fun (l : List Int) => x6 :: l) ((fun (l : List Int) => x7 :: l) ((fun (l : List Int) => x8 :: l) ((fun (l : List Int) => x9 :: l) ((fun (l : List Int) => x10 :: l) ((fun (l : List Int) => x11 :: l) ((fun (l : List Int) => x12 :: l) ((fun (l : List Int) => x13 :: l) ((fun (l : List Int) => x14 :: l) ((fun (l : List Int) => x15 :: l) [])))))))))))))))) = (16 : Nat) - (0 : Nat) ∧ (16 : Nat) - (0 : Nat) = (16 : Nat) - (0 : Nat) ∧ (16 : Nat) - (0 : Nat) ≤ (16 : Nat) ∧ (0 : Int) ≤ n_1 ∧ n_1 ≤ (128 : Int) ∧ (0 : Nat) ≠ (1 : Nat)) ∧ R (AV.bo (H [p0, p1, p2, p3, p4, p5, p6, p7, p8, p9, p10, p11, p12, p13, p14, p15] [x0, x1, x2, x3, x4, x5, x6, x7, x8, x9, x10, x11, x12, x13, x14, x15] n_1)) [Blk.cells [AV.i IntKind.u8 p0, AV.i IntKind.u8 p1, AV.i IntKind.u8 p2, AV.i IntKind.u8 p3, AV.i IntKind.u8 p4, AV.i IntKind.u8 p5, AV.i IntKind.u8 p6, AV.i IntKind.u8 p7, AV.i IntKind.u8 p8, AV.i IntKind.u8 p9, AV.i IntKind.u8 p10, AV.i IntKind.u8 p11, AV.i IntKind.u8 p12, AV.i IntKind.u8 p13, AV.i IntKind.u8 p14, AV.i IntKind.u8 p15, AV.i IntKind.i64 n] true, Blk.cells [AV.i IntKind.u8 x0, AV.i IntKind.u8 x1, AV.i IntKind.u8 x2, AV.i IntKind.u8 x3, AV.i IntKind.u8 x4, AV.i IntKind.u8 x5, AV.i IntKind.u8 x6, AV.i IntKind.u8 x7, AV.i IntKind.u8 x8, AV.i IntKind.u8 x9, AV.i IntKind.u8 x10, AV.i IntKind.u8 x11, AV.i IntKind.u8 x12, AV.i IntKind.u8 x13, AV.i IntKind.u8 x14, AV.i IntKind.u8 x15] true]) (R (AV.bo false) [Blk.cells [AV.i IntKind.u8 p0, AV.i IntKind.u8 p1, AV.i IntKind.u8 p2, AV.i IntKind.u8 p3, AV.i IntKind.u8 p4, AV.i IntKind.u8 p5, AV.i IntKind.u8 p6, AV.i IntKind.u8 p7, AV.i IntKind.u8 p8, AV.i IntKind.u8 p9, AV.i IntKind.u8 p10, AV.i IntKind.u8 p11, AV.i IntKind.u8 p12, AV.i IntKind.u8 p13, AV.i IntKind.u8 p14, AV.i IntKind.u8 p15, AV.i IntKind.i64 n] true, Blk.cells [AV.i IntKind.u8 x0, AV.i IntKind.u8 x1, AV.i IntKind.u8 x2, AV.i IntKind.u8 x3, AV.i IntKind.u8 x4, AV.i IntKind.u8 x5, AV.i IntKind.u8 x6, AV.i IntKind.u8 x7, AV.i IntKind.u8 x8, AV.i IntKind.u8 x9, AV.i IntKind.u8 x10, AV.i IntKind.u8 x11, AV.i IntKind.u8 x12, AV.i IntKind.u8 x13, AV.i IntKind.u8 x14, AV.i IntKind.u8 x15] true])) := by kernel_rfl
theorem vc22 (B : List Int → Int → Bool) (H : List Int → List Int → Int → Bool) (p0 p1 p2 p3 n x0 x1 x2 x3 : Int) (R : AV → Hp → Prop) : (wpFn P (tcons 49 (tright 4 B) (tcons 48 (tholds H) tnil)) noW noL 0 Go.Proofs.Tryd.f22 [.ag [.i .u8 p0, .i .u8 p1, .i .u8 p2, .i .u8 p3, .i .i64 n], .ag [.i .u8 x0, .i .u8 x1, .i .u8 x2, .i .u8 x3]] [] R) = (Holds (okb ((fun (l : List Int) => p0 :: l) ((fun (l : List Int) => p1 :: l) ((fun (l : List Int) => p2 :: l) ((fun (l : List Int) => p3 :: l) [])))) ∧ List.length ((fun (l : List Int) => p0 :: l) ((fun (l : List Int) => p1 :: l) ((fun (l : List Int) => p2 :: l) ((fun (l : List Int) => p3 :: l) [])))) = (4 : Nat)) ∧ br (B [p0, p1, p2, p3] n) (∃ (n_1 : Int), Holds ([AV.i IntKind.u8 p0, AV.i IntKind.u8 p1, AV.i IntKind.u8 p2, AV.i IntKind.u8 p3, AV.i IntKind.i64 n][(4 : Nat)]? = some (AV.i IntKind.i64 n_1)) ∧ Holds (okb ((fun (l : List Int) => p0 :: l) ((fun (l : List Int) => p1 :: l) ((fun (l : List Int) => p2 :: l) ((fun (l : List Int) => p3 :: l) [])))) ∧ okb ((fun (l : List Int) => x0 :: l) ((fun (l : List Int) => x1 :: l) ((fun (l : List Int) => x2 :: l) ((fun (l : List Int) => x3 :: l) [])))) ∧ List.length ((fun (l : List Int) => p0 :: l) ((fun (l : List Int) => p1 :: l) ((fun (l : List Int) => p2 :: l) ((fun (l : List Int) => p3 :: l) [])))) = (4 : Nat) - (0 : Nat) ∧ List.length ((fun (l : List Int) => x0 :: l) ((fun (l : List Int) => x1 :: l) ((fun (l : List Int) => x2 :: l) ((fun (l : List Int) => x3 :: l) [])))) = (4 : Nat) - (0 : Nat) ∧ (4 : Nat) - (0 : Nat) = (4 : Nat) - (0 : Nat) ∧ (4 : Nat) - (0 : Nat) ≤ (16 : Nat) ∧ (0 : Int) ≤ n_1 ∧ n_1 ≤ (128 : Int) ∧ (0 : Nat) ≠ (1 : Nat)) ∧ R (AV.bo (H [p0, p1, p2, p3] [x0, x1, x2, x3] n_1)) [Blk.cells [AV.i IntKind.u8 p0, AV.i IntKind.u8 p1, AV.i IntKind.u8 p2, AV.i IntKind.u8 p3, AV.i IntKind.i64 n] true, Blk.cells [AV.i IntKind.u8 x0, AV.i IntKind.u8 x1, AV.i IntKind.u8 x2, AV.i IntKind.u8 x3] true]) (R (AV.bo false) [Blk.cells [AV.i IntKind.u8 p0, AV.i IntKind.u8 p1, AV.i IntKind.u8 p2, AV.i IntKind.u8 p3, AV.i IntKind.i64 n] true, Blk.cells [AV.i IntKind.u8 x0, AV.i IntKind.u8 x1, AV.i IntKind.u8 x2, AV.i IntKind.u8 x3] true])) := by kernel_rfl
theorem numsOf_eq : ∀ {c : List AV} {l : List Int}, numsOf c = some l → c = l.map (AV.i .u8)
  | [], l, h => by cases h; rfl
  | .i .u8 n :: r, l, h => by
    obtain ⟨l', h1, rfl⟩ := Option.map_eq_some_iff.1 (show (numsOf r).map (fun l => n :: l) = some l from h)
    rw [List.map_cons, ← numsOf_eq h1]
theorem numsOf_map : ∀ (l : List Int), numsOf (l.map (AV.i .u8)) = some l
  | [] => rfl
  | x :: l => by simp only [List.map_cons, numsOf, numsOf_map l, Option.map_some]
theorem cell_at {c : List AV} {off len i : Nat} {l : List Int} (h : (c.drop off).take len = l.map (AV.i .u8)) (hl : l.length = len) (hi : i < len) : c[off + i * 1]? = some (.i .u8 (l.getD i 0)) := by
  have e : ((c.drop off).take len)[i]? = (l.map (AV.i .u8))[i]? := by rw [h]
  rw [List.getElem?_take_of_lt hi, List.getElem?_drop] at e
  rw [Nat.mul_one, e, List.getElem?_map, List.getD_eq_getElem?_getD, List.getElem?_eq_getElem (by omega)]
  rfl
theorem rens_cell {J : List Nat} {c : List AV} {j : Nat} {k : IntKind} {n : Int} (h : c[j]? = some (.i k n)) : (rens J c)[j]? = some (.i k n) := by
  rw [rens_eq_map, List.getElem?_map, h]; rfl
theorem getD_cells {h : Hp} {i : Nat} {c : List AV} {wr : Bool} (e : h.getD i .dead = .cells c wr) : h[i]? = some (.cells c wr) := by
  rw [List.getD_eq_getElem?_getD] at e
  cases k : h[i]? with
  | none => rw [k] at e; cases e
  | some B => rw [k] at e; rw [show B = .cells c wr from e]
/-- bare. -/
inductive Sbare (B : List Int → Int → Bool) : List AV → Hp → AV → Hp → Prop
  | mk {h : Hp} {id off len : Nat} {cap : Option Nat} {n : Int} {c : List AV} {wr : Bool} {l : List Int} (e : h.getD id .dead = .cells c wr) (hl : numsOf ((c.drop off).take len) = some l) (hk : okb l ∧ l.length = len ∧ len ≤ 16 ∧ 0 ≤ n ∧ n ≤ 128) :
      Sbare B [.sl id off len 1 cap, .i .i64 n] h (.bo (B l n)) h
theorem Sbare.det {B : List Int → Int → Bool} : Det (Sbare B) := by
  intro args h r h' r2 h2 x y
  cases x with
  | mk e hl hk => cases y with
    | mk e' hl' hk' => rw [e] at e'; cases e'; rw [hl] at hl'; cases hl'; exact ⟨rfl, rfl⟩
theorem tbare_f {B : List Int → Int → Bool} : FollowsF (tbare B) (Cof (Sbare B)) := by
  refine follows_of Sbare.det fun args h K hk => ?_
  unfold tbare at hk
  split at hk
  · split at hk
    · rename_i e
      obtain ⟨l, hl, h1, h2⟩ := optQ_spec hk
      exact ⟨_, _, .mk e hl h1.out, h2⟩
    · exact hk.elim
  · exact hk.elim
inductive Sholds (B : List Int → List Int → Int → Bool) : List AV → Hp → AV → Hp → Prop
  | mk {h : Hp} {ia oa la ib ob lb : Nat} {ca cb : Option Nat} {n : Int} {c d : List AV} {wr wr' : Bool} {x y : List Int} (e : h.getD ia .dead = .cells c wr) (f : h.getD ib .dead = .cells d wr') (hx : numsOf ((c.drop oa).take la) = some x) (hy : numsOf ((d.drop ob).take lb) = some y)
      (hk : okb x ∧ okb y ∧ x.length = la ∧ y.length = la ∧ lb = la ∧ la ≤ 16 ∧ 0 ≤ n ∧ n ≤ 128 ∧ ia ≠ ib) : Sholds B [.sl ia oa la 1 ca, .sl ib ob lb 1 cb, .i .i64 n] h (.bo (B x y n)) h
theorem Sholds.det {B : List Int → List Int → Int → Bool} : Det (Sholds B) := by
  intro args h r h' r2 h2 x y
  cases x with
  | mk e f hx hy hk => cases y with
    | mk e' f' hx' hy' hk' => rw [e] at e'; cases e'; rw [f] at f'; cases f'; rw [hx] at hx'; cases hx'; rw [hy] at hy'; cases hy'; exact ⟨rfl, rfl⟩
theorem tholds_f {B : List Int → List Int → Int → Bool} : FollowsF (tholds B) (Cof (Sholds B)) := by
  refine follows_of Sholds.det fun args h K hk => ?_
  unfold tholds at hk
  split at hk
  · split at hk
    · rename_i e f
      obtain ⟨x, hx, hk⟩ := optQ_spec hk
      obtain ⟨y, hy, h1, h2⟩ := optQ_spec hk
      exact ⟨_, _, .mk e f hx hy h1.out, h2⟩
    · exact hk.elim
  · exact hk.elim
theorem fn68 : fnOk1 P noW 68 Go.Proofs.Tryd.f68 := ⟨Go.Proofs.Tryd.func68, by kernel_rfl, by kernel_rfl, by kernel_rfl⟩
theorem fn48 : fnOk1 P noW 48 Go.Proofs.Tryd.f48 := ⟨Go.Proofs.Tryd.func48, by kernel_rfl, by kernel_rfl, by kernel_rfl⟩
theorem fn47 : fnOk1 P noW 47 Go.Proofs.Tryd.f47 := ⟨Go.Proofs.Tryd.func47, by kernel_rfl, by kernel_rfl, by kernel_rfl⟩
theorem fn49 : fnOk1 P noW 49 Go.Proofs.Tryd.f49 := ⟨Go.Proofs.Tryd.func49, by kernel_rfl, by kernel_rfl, by kernel_rfl⟩
theorem fn20 : fnOk1 P noW 20 Go.Proofs.Tryd.f20 := ⟨Go.Proofs.Tryd.func20, by kernel_rfl, by kernel_rfl, by kernel_rfl⟩
theorem fn22 : fnOk1 P noW 22 Go.Proofs.Tryd.f22 := ⟨Go.Proofs.Tryd.func22, by kernel_rfl, by kernel_rfl, by kernel_rfl⟩
set_option maxRecDepth 100000 in
theorem bare_s : SoundF P 68 (Cof (Sbare Bv)) := by
  refine SoundF.flat (follows_nil _) (noEnv_sound _) mo fn68 fun args h r h' he => ?_
  have hx := Cof_spec he
  cases hx with
  | @mk _ id off len cap n c wr l e hl hk =>
    have e := getD_cells e
    have hc := numsOf_eq hl
    refine ⟨rfl, rfl, [id], head68 off len cap n (rens [id] c), 1, by simpa using (List.getElem?_eq_some_iff.1 e).1, ?_⟩
    rw [show rens [id] [.sl id off len 1 cap, .i .i64 n] = [.sl 0 off len 1 cap, .i .i64 n] from by simp [rens, ren, posOf], show pickH h [id] = [.cells (rens [id] c) false] from by simp [pickH, renB, e]]
    exact run68 hk.2.1 hk.2.2.1 hk.2.2.2.1 hk.2.2.2.2 hk.1 fun i hi => rens_cell (cell_at hc hk.2.1 hi)
set_option maxRecDepth 100000 in
theorem holds_s : SoundF P 48 (Cof (Sholds Hv)) := by
  refine SoundF.flat (follows_nil _) (noEnv_sound _) mo fn48 fun args h r h' he => ?_
  have hx := Cof_spec he
  cases hx with
  | @mk _ ia oa la ib ob lb ca cb n c d wr wr' x y e f hx hy hk =>
    have e := getD_cells e
    have f := getD_cells f
    have hc := numsOf_eq hx
    have hd := numsOf_eq hy
    obtain ⟨k1, k2, k3, k4, rfl, k6, k7, k8, k9⟩ := hk
    refine ⟨rfl, rfl, [ia, ib], head48 oa ob lb lb ca cb n (rens [ia, ib] c) (rens [ia, ib] d), 2, by simpa using ⟨(List.getElem?_eq_some_iff.1 e).1, (List.getElem?_eq_some_iff.1 f).1⟩, ?_⟩
    rw [show rens [ia, ib] [.sl ia oa lb 1 ca, .sl ib ob lb 1 cb, .i .i64 n] = [.sl 0 oa lb 1 ca, .sl 1 ob lb 1 cb, .i .i64 n] from by simp [rens, ren, posOf, k9], show pickH h [ia, ib] = [.cells (rens [ia, ib] c) false, .cells (rens [ia, ib] d) false] from by simp [pickH, renB, e, f]]
    exact run48 k3 rfl k4 k6 k7 k8 k1 k2 (fun i hi => rens_cell (cell_at hc k3 hi)) (fun i hi => rens_cell (cell_at hd k4 hi))
def Rv (mx : Int) (l : List Int) (n : Int) : Bool := decide (n ≥ 0) && (decide (n ≤ mx) && Bv l n)
def mkNet (q : List Int × Int) : List AV := [.ag (q.1.map (AV.i .u8) ++ [.i .i64 q.2])]
theorem map_u8_inj : ∀ {x y : List Int}, x.map (AV.i .u8) = y.map (AV.i .u8) → x = y := by
  intro x y h
  have := congrArg numsOf h
  rw [numsOf_map, numsOf_map] at this
  exact Option.some.inj this
theorem mkNet_inj (x y : List Int × Int) (h : mkNet x = mkNet y) : x = y := by
  obtain ⟨a, n⟩ := x; obtain ⟨b, m⟩ := y
  simp only [mkNet, List.cons.injEq, AV.ag.injEq, and_true] at h
  obtain ⟨h1, h2⟩ := List.append_inj' h rfl
  simp only [List.cons.injEq, AV.i.injEq, true_and, and_true] at h2
  rw [map_u8_inj h1, h2]
theorem tright_f {B : List Int → Int → Bool} {k : Nat} : FollowsF (tright k B) (Cof (Splain mkNet (fun q => okb q.1 ∧ q.1.length = k) fun q => .bo (B q.1 q.2))) := by
  refine follows_of (Splain.det mkNet_inj) fun args h K hk => ?_
  unfold tright at hk
  split at hk
  · rename_i xs
    split at hk
    · rename_i n hn
      obtain ⟨l, hl, h1, h2⟩ := optQ_spec hk
      refine ⟨_, _, ⟨rfl, (l, n), ?_, h1.out, rfl⟩, h2⟩
      obtain ⟨ys, rfl⟩ := List.getLast?_eq_some_iff.1 hn
      rw [List.dropLast_concat] at hl
      rw [mkNet, numsOf_eq hl]
    · exact hk.elim
  · exact hk.elim
theorem Rv_n {mx : Int} {l : List Int} {n : Int} (h : Rv mx l n = true) : 0 ≤ n ∧ n ≤ mx := by
  simp only [Rv, Bool.and_eq_true, decide_eq_true_eq] at h
  exact ⟨h.1, h.2.1⟩
/-- A prefix and an address. -/
def mkNetA (q : List Int × Int × List Int) : List AV := [.ag (q.1.map (AV.i .u8) ++ [.i .i64 q.2.1]), .ag (q.2.2.map (AV.i .u8))]
theorem mkNetA_inj (x y : List Int × Int × List Int) (h : mkNetA x = mkNetA y) : x = y := by
  obtain ⟨a, n, c⟩ := x; obtain ⟨b, m, d⟩ := y
  simp only [mkNetA, List.cons.injEq, AV.ag.injEq, and_true] at h
  obtain ⟨h1, h3⟩ := h
  obtain ⟨h1, h2⟩ := List.append_inj' h1 rfl
  simp only [List.cons.injEq, AV.i.injEq, true_and, and_true] at h2
  rw [map_u8_inj h1, h2, map_u8_inj h3]
/-- Does a prefix hold an address? -/
def tnet (k : Nat) (B : List Int → Int → List Int → Bool) (args : List AV) (h : Hp) (K : AV → Hp → Prop) : Prop := match args with
  | [.ag xs, .ag ys] => match xs.getLast? with
    | some (.i .i64 n) => optQ (numsOf xs.dropLast) fun l => optQ (numsOf ys) fun a => Holds (okb l ∧ l.length = k ∧ okb a ∧ a.length = k) ∧ K (.bo (B l n a)) h
    | _ => False
  | _ => False
theorem tnet_f {B : List Int → Int → List Int → Bool} {k : Nat} : FollowsF (tnet k B) (Cof (Splain mkNetA (fun q => okb q.1 ∧ q.1.length = k ∧ okb q.2.2 ∧ q.2.2.length = k) fun q => .bo (B q.1 q.2.1 q.2.2))) := by
  refine follows_of (Splain.det mkNetA_inj) fun args h K hk => ?_
  unfold tnet at hk
  split at hk
  · rename_i xs ys
    split at hk
    · rename_i n hn
      obtain ⟨l, hl, hk⟩ := optQ_spec hk
      obtain ⟨a, ha, h1, h2⟩ := optQ_spec hk
      refine ⟨_, _, ⟨rfl, (l, n, a), ?_, h1.out, rfl⟩, h2⟩
      obtain ⟨zs, rfl⟩ := List.getLast?_eq_some_iff.1 hn
      rw [List.dropLast_concat] at hl
      rw [mkNetA, numsOf_eq hl, ← numsOf_eq ha]
    · exact hk.elim
  · exact hk.elim
theorem run47 {p0 p1 p2 p3 p4 p5 p6 p7 p8 p9 p10 p11 p12 p13 p14 p15 n : Int} (hk : okb [p0, p1, p2, p3, p4, p5, p6, p7, p8, p9, p10, p11, p12, p13, p14, p15]) : Holds (wpFn P (tcons 68 (tbare Bv) tnil) noW noL 0 Go.Proofs.Tryd.f47 [.ag [.i .u8 p0, .i .u8 p1, .i .u8 p2, .i .u8 p3, .i .u8 p4, .i .u8 p5, .i .u8 p6, .i .u8 p7, .i .u8 p8, .i .u8 p9, .i .u8 p10, .i .u8 p11, .i .u8 p12, .i .u8 p13, .i .u8 p14, .i .u8 p15, .i .i64 n]] [] fun v _ => v = .bo (Rv 128 [p0, p1, p2, p3, p4, p5, p6, p7, p8, p9, p10, p11, p12, p13, p14, p15] n)) := by
  refine ⟨?_⟩
  rw [vc47]
  refine ⟨n, ⟨rfl⟩, br_intro (fun h0 => ⟨n, ⟨rfl⟩, br_intro (fun h1 => ⟨n, ⟨rfl⟩, ⟨⟨hk, rfl, by decide, ?_, ?_⟩⟩, ?_⟩) (fun h1 => ?_)⟩) (fun h0 => ?_)⟩
  · simpa using h0
  · have := of_decide_eq_true h1; omega
  · rw [Rv, h0, h1]; rfl
  · rw [Rv, h0, h1]; rfl
  · rw [Rv, h0]; rfl
set_option maxRecDepth 100000 in
theorem right47_s : SoundF P 47 (Cof (Splain mkNet (fun q => okb q.1 ∧ q.1.length = 16) fun q => .bo (Rv 128 q.1 q.2))) := by
  refine SoundF.plainH (follows_cons tbare_f (follows_nil _)) (with1_sound fn68.ok bare_s (noEnv_sound _)) mo fn47 (fun q => ?_) (fun _ => rfl) noL ?_
  · show AV.unders 0 [.ag (q.1.map (AV.i .u8) ++ [.i .i64 q.2])] = true
    simp only [AV.unders, AV.under, unders_append, Bool.and_true]
    exact unders_map 0 _ (fun _ => rfl) _
  · rintro ⟨l, n⟩ ⟨hk, hl⟩
    match l, hl with
    | [p0, p1, p2, p3, p4, p5, p6, p7, p8, p9, p10, p11, p12, p13, p14, p15], _ => exact run47 hk
theorem run20 {p0 p1 p2 p3 p4 p5 p6 p7 p8 p9 p10 p11 p12 p13 p14 p15 n x0 x1 x2 x3 x4 x5 x6 x7 x8 x9 x10 x11 x12 x13 x14 x15 : Int} (hk : okb [p0, p1, p2, p3, p4, p5, p6, p7, p8, p9, p10, p11, p12, p13, p14, p15]) (hx : okb [x0, x1, x2, x3, x4, x5, x6, x7, x8, x9, x10, x11, x12, x13, x14, x15]) : Holds (wpFn P (tcons 47 (tright 16 (Rv 128)) (tcons 48 (tholds Hv) tnil)) noW noL 0 Go.Proofs.Tryd.f20 [.ag [.i .u8 p0, .i .u8 p1, .i .u8 p2, .i .u8 p3, .i .u8 p4, .i .u8 p5, .i .u8 p6, .i .u8 p7, .i .u8 p8, .i .u8 p9, .i .u8 p10, .i .u8 p11, .i .u8 p12, .i .u8 p13, .i .u8 p14, .i .u8 p15, .i .i64 n], .ag [.i .u8 x0, .i .u8 x1, .i .u8 x2, .i .u8 x3, .i .u8 x4, .i .u8 x5, .i .u8 x6, .i .u8 x7, .i .u8 x8, .i .u8 x9, .i .u8 x10, .i .u8 x11, .i .u8 x12, .i .u8 x13, .i .u8 x14, .i .u8 x15]] [] fun v _ => v = .bo (Rv 128 [p0, p1, p2, p3, p4, p5, p6, p7, p8, p9, p10, p11, p12, p13, p14, p15] n && Hv [p0, p1, p2, p3, p4, p5, p6, p7, p8, p9, p10, p11, p12, p13, p14, p15] [x0, x1, x2, x3, x4, x5, x6, x7, x8, x9, x10, x11, x12, x13, x14, x15] n)) := by
  refine ⟨?_⟩
  rw [vc20]
  refine ⟨⟨hk, rfl⟩, br_intro (fun h => ⟨n, ⟨rfl⟩, ⟨⟨hk, hx, rfl, rfl, rfl, by decide, (Rv_n h).1, ?_, by decide⟩⟩, ?_⟩) (fun h => ?_)⟩
  · have := (Rv_n h).2; omega
  · rw [h]; rfl
  · rw [h]; rfl
set_option maxRecDepth 100000 in
theorem holds20_s : SoundF P 20 (Cof (Splain mkNetA (fun q => okb q.1 ∧ q.1.length = 16 ∧ okb q.2.2 ∧ q.2.2.length = 16) fun q => .bo (Rv 128 q.1 q.2.1 && Hv q.1 q.2.2 q.2.1))) := by
  refine SoundF.plainH (follows_cons tright_f (follows_cons tholds_f (follows_nil _))) (with1_sound fn47.ok right47_s (with1_sound fn48.ok holds_s (noEnv_sound _))) mo fn20 (fun q => ?_) (fun _ => rfl) noL ?_
  · show AV.unders 0 [.ag (q.1.map (AV.i .u8) ++ [.i .i64 q.2.1]), .ag (q.2.2.map (AV.i .u8))] = true
    simp only [AV.unders, AV.under, unders_append, Bool.and_true, Bool.and_eq_true]
    exact ⟨unders_map 0 _ (fun _ => rfl) _, unders_map 0 _ (fun _ => rfl) _⟩
  · rintro ⟨l, n, a⟩ ⟨hk, hl, hx, ha⟩
    match l, hl, a, ha with
    | [p0, p1, p2, p3, p4, p5, p6, p7, p8, p9, p10, p11, p12, p13, p14, p15], _, [x0, x1, x2, x3, x4, x5, x6, x7, x8, x9, x10, x11, x12, x13, x14, x15], _ => exact run20 hk hx
theorem run49 {p0 p1 p2 p3 n : Int} (hk : okb [p0, p1, p2, p3]) : Holds (wpFn P (tcons 68 (tbare Bv) tnil) noW noL 0 Go.Proofs.Tryd.f49 [.ag [.i .u8 p0, .i .u8 p1, .i .u8 p2, .i .u8 p3, .i .i64 n]] [] fun v _ => v = .bo (Rv 32 [p0, p1, p2, p3] n)) := by
  refine ⟨?_⟩
  rw [vc49]
  refine ⟨n, ⟨rfl⟩, br_intro (fun h0 => ⟨n, ⟨rfl⟩, br_intro (fun h1 => ⟨n, ⟨rfl⟩, ⟨⟨hk, rfl, by decide, ?_, ?_⟩⟩, ?_⟩) (fun h1 => ?_)⟩) (fun h0 => ?_)⟩
  · simpa using h0
  · have := of_decide_eq_true h1; omega
  · rw [Rv, h0, h1]; rfl
  · rw [Rv, h0, h1]; rfl
  · rw [Rv, h0]; rfl
set_option maxRecDepth 100000 in
theorem right49_s : SoundF P 49 (Cof (Splain mkNet (fun q => okb q.1 ∧ q.1.length = 4) fun q => .bo (Rv 32 q.1 q.2))) := by
  refine SoundF.plainH (follows_cons tbare_f (follows_nil _)) (with1_sound fn68.ok bare_s (noEnv_sound _)) mo fn49 (fun q => ?_) (fun _ => rfl) noL ?_
  · show AV.unders 0 [.ag (q.1.map (AV.i .u8) ++ [.i .i64 q.2])] = true
    simp only [AV.unders, AV.under, unders_append, Bool.and_true]
    exact unders_map 0 _ (fun _ => rfl) _
  · rintro ⟨l, n⟩ ⟨hk, hl⟩
    match l, hl with
    | [p0, p1, p2, p3], _ => exact run49 hk
theorem run22 {p0 p1 p2 p3 n x0 x1 x2 x3 : Int} (hk : okb [p0, p1, p2, p3]) (hx : okb [x0, x1, x2, x3]) : Holds (wpFn P (tcons 49 (tright 4 (Rv 32)) (tcons 48 (tholds Hv) tnil)) noW noL 0 Go.Proofs.Tryd.f22 [.ag [.i .u8 p0, .i .u8 p1, .i .u8 p2, .i .u8 p3, .i .i64 n], .ag [.i .u8 x0, .i .u8 x1, .i .u8 x2, .i .u8 x3]] [] fun v _ => v = .bo (Rv 32 [p0, p1, p2, p3] n && Hv [p0, p1, p2, p3] [x0, x1, x2, x3] n)) := by
  refine ⟨?_⟩
  rw [vc22]
  refine ⟨⟨hk, rfl⟩, br_intro (fun h => ⟨n, ⟨rfl⟩, ⟨⟨hk, hx, rfl, rfl, rfl, by decide, (Rv_n h).1, ?_, by decide⟩⟩, ?_⟩) (fun h => ?_)⟩
  · have := (Rv_n h).2; omega
  · rw [h]; rfl
  · rw [h]; rfl
set_option maxRecDepth 100000 in
theorem holds22_s : SoundF P 22 (Cof (Splain mkNetA (fun q => okb q.1 ∧ q.1.length = 4 ∧ okb q.2.2 ∧ q.2.2.length = 4) fun q => .bo (Rv 32 q.1 q.2.1 && Hv q.1 q.2.2 q.2.1))) := by
  refine SoundF.plainH (follows_cons tright_f (follows_cons tholds_f (follows_nil _))) (with1_sound fn49.ok right49_s (with1_sound fn48.ok holds_s (noEnv_sound _))) mo fn22 (fun q => ?_) (fun _ => rfl) noL ?_
  · show AV.unders 0 [.ag (q.1.map (AV.i .u8) ++ [.i .i64 q.2.1]), .ag (q.2.2.map (AV.i .u8))] = true
    simp only [AV.unders, AV.under, unders_append, Bool.and_true, Bool.and_eq_true]
    exact ⟨unders_map 0 _ (fun _ => rfl) _, unders_map 0 _ (fun _ => rfl) _⟩
  · rintro ⟨l, n, a⟩ ⟨hk, hl, hx, ha⟩
    match l, hl, a, ha with
    | [p0, p1, p2, p3], _, [x0, x1, x2, x3], _ => exact run22 hk hx
