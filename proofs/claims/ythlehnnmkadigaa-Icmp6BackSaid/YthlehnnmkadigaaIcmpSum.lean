/- The functions of package sum and of its reference: what they answer. -/
import Derived.Test.YthlehnnmkadigaaEngU
import Derived.Test.YthlehnnmkadigaaProg
import Derived.Test.YthlehnnmkadigaaSumMath
set_option linter.unusedVariables false
set_option linter.unusedSimpArgs false
open Go Go.Proofs.Ythlehnnmkadigaa.Eng Go.RowKit
namespace Go.Proofs.Ythlehnnmkadigaa.SumRun
noncomputable abbrev P := Go.Proofs.Try.prog
def bads : Nat → List AV
  | 0 => []
  | n + 1 => .bad :: bads n
def noW : Nat → Option Road := fun _ => none
def noL : Nat → Option Head := fun _ => none
def okT (T : Int) (n : Nat) : Prop := 0 ≤ T ∧ T + 65280 * n ≤ 4611686018427387904
def okA (a : Int) (n : Nat) : Prop := 0 ≤ a ∧ a + n ≤ 4611686018427387904
def okM (m : Int) : Prop := m = 0 ∨ m = 255
/-- sum.fold -/
def t24 (Fv : Int → Int) (args : List AV) (h : Hp) (K : AV → Hp → Prop) : Prop := match args with
  | [.i .i64 n] => Holds (0 ≤ n ∧ n ≤ 4611686018427387904) ∧ K (.i .i64 (Fv n)) h
  | _ => False
/-- sum.add -/
def t25 (Av : Int → Int → ByteArray → Int → Int) (args : List AV) (h : Hp) (K : AV → Hp → Prop) : Prop := match args with
  | [.i .i64 T, .i .i64 a, .s s, .i .u8 m] => Holds (okT T s.size) ∧ Holds (okA a s.size) ∧ Holds (okM m) ∧ K (.i .i64 (Av T a s m)) h
  | _ => False
/-- interpreterref02.Words -/
def t27 (Wv : ByteArray → List Int) (args : List AV) (h : Hp) (K : AV → Hp → Prop) : Prop := match args with
  | [.s s] => Holds (s.size ≤ 1073741824) ∧ (Holds (Wv s = []) → K .sn h) ∧ (Holds (Wv s ≠ []) → K (.sl h.length 0 (Wv s).length 1 none) (h ++ [.cells ((Wv s).map (.i .i64)) true]))
  | _ => False
/-- a text to a number -/
def tstr (ok : ByteArray → Prop) (r : ByteArray → AV) (args : List AV) (h : Hp) (K : AV → Hp → Prop) : Prop := match args with
  | [.s s] => Holds (ok s) ∧ K (r s) h
  | _ => False
def head24 : Nat → Option Head := fun r => match r with
  | 1 => some (Head.one (Get.int 0) fun q => ⟨[.i .i64 q] ++ bads 10, []⟩)
  | _ => none
def head25 (a m : Int) (s : ByteArray) : Nat → Option Head := fun r => match r with
  | 2 => some (Head.one (Get.and (Get.int 0) (Get.int 13)) fun q => ⟨[.i .i64 q.1, .i .i64 a, .s s, .i .u8 m] ++ bads 8 ++ [.i .i64 s.size, .i .i64 q.2] ++ bads 20, []⟩)
  | _ => none
def head13 (v : AV) (n : Nat) (h : Hp) : Nat → Option Head := fun r => match r with
  | 3 => some (Head.one (Get.and (Get.int 3) (Get.and (Get.int 4) (Get.int 9))) fun q => ⟨[v, .bad, .bad, .i .i64 q.1, .i .i64 q.2.1, .bad, .bad, v, .i .i64 n, .i .i64 q.2.2] ++ bads 15, h⟩)
  | _ => none
def head26 (v : AV) (h : Hp) : Nat → Option Head := fun r => match r with
  | 3 => some (Head.one (Get.and (Get.int 3) (Get.int 4)) fun q => ⟨[v, .bad, .bad, .i .i64 q.1, .i .i64 q.2] ++ bads 20, h⟩)
  | 6 => some (Head.one (Get.int 3) fun q => ⟨[.bad, .bad, .bad, .i .i64 q] ++ bads 21, h⟩)
  | _ => none
def head27 : Nat → Option Head := fun r => match r with
  | 1004 => some (Head.one (Get.str 0) fun q => ⟨[.s q, .bad, .bad, .sn] ++ bads 30, []⟩)
  | 5 => some (Head.two (nilAt 3) (Get.and (Get.str 0) (Get.int 4)) (fun q => ⟨[.s q.1, .bad, .bad, .sn, .i .i64 q.2] ++ bads 29, []⟩)
      (Get.and (Get.str 0) (Get.and (Get.int 4) (Get.sl 3))) (fun q => ⟨[.s q.1, .bad, .bad, .sl 0 0 q.2.2.1 1 none, .i .i64 q.2.1] ++ bads 29, [.cells q.2.2.2 true]⟩))
  | _ => none
theorem vc24 (n : Int) (R : AV → Hp → Prop) : (wpFn P tnil noW head24 0 Go.Proofs.Try.f48 [.i .i64 n] [] R) = (Wk 0 { t := [AV.i IntKind.i64 n, .bad, .bad, .bad, .bad, .bad, .bad, .bad, .bad, .bad, .bad], h := [] } { t := [AV.i IntKind.i64 n, .bad, .bad, .bad, .bad, .bad, .bad, .bad, .bad, .bad, .bad], h := [] } ∧ ∃ (I : Nat → Int → Prop), ∃ (n_1 : Nat), I n_1 n ∧ ∀ (a : Int) (n : Nat), I n a → br (decide (a > 65535)) (Wk 0 { t := [AV.i IntKind.i64 (IntKind.wrap IntKind.i64 (Int.fdiv a (2 ^ min (Int.toNat 16) (IntKind.bits IntKind.i64)) + bits BinOp.and IntKind.i64 a 65535)), .bad, .bad, .bad, .bad, .bad, .bad, .bad, .bad, .bad, .bad], h := [] } { t := [AV.i IntKind.i64 (IntKind.wrap IntKind.i64 (Int.fdiv a (2 ^ min (Int.toNat 16) (IntKind.bits IntKind.i64)) + bits BinOp.and IntKind.i64 a 65535)), .bad, .bad, .bad, .bad, .bad, .bad, .bad, .bad, .bad, .bad], h := [] } ∧ ∃ (m : Nat), Holds (m < n) ∧ I m (IntKind.wrap IntKind.i64 (Int.fdiv a (2 ^ min (Int.toNat 16) (IntKind.bits IntKind.i64)) + bits BinOp.and IntKind.i64 a 65535))) (R (AV.i IntKind.i64 a) [])) := by kernel_rfl
theorem vc25 (T a m : Int) (s : ByteArray) (R : AV → Hp → Prop) : (wpFn P tnil noW (head25 a m s) 0 Go.Proofs.Try.f49 [.i .i64 T, .i .i64 a, .s s, .i .u8 m] [] R) = (Wk 0 { t := [AV.i IntKind.i64 T, AV.i IntKind.i64 a, AV.s s, AV.i IntKind.u8 m, .bad, .bad, .bad, .bad, .bad, .bad, .bad, .bad, AV.i IntKind.i64 ↑(ByteArray.size s), AV.i IntKind.i64 0, .bad, .bad, .bad, .bad, .bad, .bad, .bad, .bad, .bad, .bad, .bad, .bad, .bad, .bad, .bad, .bad, .bad, .bad, .bad, .bad], h := [] } { t := [AV.i IntKind.i64 T, AV.i IntKind.i64 a, AV.s s, AV.i IntKind.u8 m, .bad, .bad, .bad, .bad, .bad, .bad, .bad, .bad, AV.i IntKind.i64 ↑(ByteArray.size s), AV.i IntKind.i64 0, .bad, .bad, .bad, .bad, .bad, .bad, .bad, .bad, .bad, .bad, .bad, .bad, .bad, .bad, .bad, .bad, .bad, .bad, .bad, .bad], h := [] } ∧ ∃ (I : Nat → Int × Int → Prop), ∃ (n : Nat), I n (T, 0) ∧ ∀ (a_1 : Int × Int) (n : Nat), I n a_1 → br (decide (Prod.snd a_1 < ↑(ByteArray.size s))) (Holds (0 ≤ Prod.snd a_1) ∧ ∃ (b : UInt8), Holds (s[Int.toNat (Prod.snd a_1)]? = some b) ∧ br (Int.tmod (IntKind.wrap IntKind.i64 (a + Prod.snd a_1)) 2 == 0) (Wk 0 { t := [AV.i IntKind.i64 (IntKind.wrap IntKind.i64 (Prod.fst a_1 + IntKind.wrap IntKind.i64 (IntKind.wrap IntKind.i64 (bits BinOp.xor IntKind.u8 (↑(UInt8.toNat b)) m) * 256))), AV.i IntKind.i64 a, AV.s s, AV.i IntKind.u8 m, .bad, .bad, .bad, .bad, .bad, .bad, .bad, .bad, AV.i IntKind.i64 ↑(ByteArray.size s), AV.i IntKind.i64 (IntKind.wrap IntKind.i64 (Prod.snd a_1 + 1)), .bad, .bad, .bad, .bad, .bad, .bad, .bad, .bad, .bad, .bad, .bad, .bad, .bad, .bad, .bad, .bad, .bad, .bad, .bad, .bad], h := [] } { t := [AV.i IntKind.i64 (IntKind.wrap IntKind.i64 (Prod.fst a_1 + IntKind.wrap IntKind.i64 (IntKind.wrap IntKind.i64 (bits BinOp.xor IntKind.u8 (↑(UInt8.toNat b)) m) * 256))), AV.i IntKind.i64 a, AV.s s, AV.i IntKind.u8 m, .bad, .bad, .bad, .bad, .bad, .bad, .bad, .bad, AV.i IntKind.i64 ↑(ByteArray.size s), AV.i IntKind.i64 (IntKind.wrap IntKind.i64 (Prod.snd a_1 + 1)), .bad, .bad, .bad, .bad, .bad, .bad, .bad, .bad, .bad, .bad, .bad, .bad, .bad, .bad, .bad, .bad, .bad, .bad, .bad, .bad], h := [] } ∧ ∃ (m_1 : Nat), Holds (m_1 < n) ∧ I m_1 (IntKind.wrap IntKind.i64 (Prod.fst a_1 + IntKind.wrap IntKind.i64 (IntKind.wrap IntKind.i64 (bits BinOp.xor IntKind.u8 (↑(UInt8.toNat b)) m) * 256)), IntKind.wrap IntKind.i64 (Prod.snd a_1 + 1))) (Wk 0 { t := [AV.i IntKind.i64 (IntKind.wrap IntKind.i64 (Prod.fst a_1 + IntKind.wrap IntKind.i64 (bits BinOp.xor IntKind.u8 (↑(UInt8.toNat b)) m))), AV.i IntKind.i64 a, AV.s s, AV.i IntKind.u8 m, .bad, .bad, .bad, .bad, .bad, .bad, .bad, .bad, AV.i IntKind.i64 ↑(ByteArray.size s), AV.i IntKind.i64 (IntKind.wrap IntKind.i64 (Prod.snd a_1 + 1)), .bad, .bad, .bad, .bad, .bad, .bad, .bad, .bad, .bad, .bad, .bad, .bad, .bad, .bad, .bad, .bad, .bad, .bad, .bad, .bad], h := [] } { t := [AV.i IntKind.i64 (IntKind.wrap IntKind.i64 (Prod.fst a_1 + IntKind.wrap IntKind.i64 (bits BinOp.xor IntKind.u8 (↑(UInt8.toNat b)) m))), AV.i IntKind.i64 a, AV.s s, AV.i IntKind.u8 m, .bad, .bad, .bad, .bad, .bad, .bad, .bad, .bad, AV.i IntKind.i64 ↑(ByteArray.size s), AV.i IntKind.i64 (IntKind.wrap IntKind.i64 (Prod.snd a_1 + 1)), .bad, .bad, .bad, .bad, .bad, .bad, .bad, .bad, .bad, .bad, .bad, .bad, .bad, .bad, .bad, .bad, .bad, .bad, .bad, .bad], h := [] } ∧ ∃ (m_1 : Nat), Holds (m_1 < n) ∧ I m_1 (IntKind.wrap IntKind.i64 (Prod.fst a_1 + IntKind.wrap IntKind.i64 (bits BinOp.xor IntKind.u8 (↑(UInt8.toNat b)) m)), IntKind.wrap IntKind.i64 (Prod.snd a_1 + 1)))) (R (AV.i IntKind.i64 (Prod.fst a_1)) [])) := by kernel_rfl
theorem vc13 (Fv : Int → Int) (Av : Int → Int → ByteArray → Int → Int) (off len : Nat) (cap : Option Nat) (c : List AV) (R : AV → Hp → Prop) : (wpFn P (tcons 48 (t24 Fv) (tcons 49 (t25 Av) tnil)) noW (head13 (.sl 0 off len 1 cap) len [.cells c false]) 0 Go.Proofs.Try.f40 [.sl 0 off len 1 cap] [.cells c false] R) = (Wk 0 { t := [AV.sl 0 off len 1 cap, .bad, .bad, AV.i IntKind.i64 0, AV.i IntKind.i64 0, .bad, .bad, AV.sl 0 off len 1 cap, AV.i IntKind.i64 ↑len, AV.i IntKind.i64 0, .bad, .bad, .bad, .bad, .bad, .bad, .bad, .bad, .bad, .bad, .bad, .bad, .bad, .bad, .bad], h := [Blk.cells c false] } { t := [AV.sl 0 off len 1 cap, .bad, .bad, AV.i IntKind.i64 0, AV.i IntKind.i64 0, .bad, .bad, AV.sl 0 off len 1 cap, AV.i IntKind.i64 ↑len, AV.i IntKind.i64 0, .bad, .bad, .bad, .bad, .bad, .bad, .bad, .bad, .bad, .bad, .bad, .bad, .bad, .bad, .bad], h := [Blk.cells c false] } ∧ ∃ (I : Nat → Int × Int × Int → Prop), ∃ (n : Nat), I n (0, 0, 0) ∧ ∀ (a : Int × Int × Int) (n : Nat), I n a → br (decide (Prod.snd (Prod.snd a) < ↑len)) (Holds (0 ≤ Prod.snd (Prod.snd a) ∧ Prod.snd (Prod.snd a) < ↑len) ∧ ∃ (s : ByteArray), Holds (c[off + Int.toNat (Prod.snd (Prod.snd a)) * 1]? = some (AV.s s)) ∧ Holds (okT (Prod.fst a) (ByteArray.size s)) ∧ Holds (okA (Prod.fst (Prod.snd a)) (ByteArray.size s)) ∧ Holds (okM 0) ∧ Holds (0 ≤ Av (Prod.fst a) (Prod.fst (Prod.snd a)) s 0 ∧ Av (Prod.fst a) (Prod.fst (Prod.snd a)) s 0 ≤ 4611686018427387904) ∧ Wk 0 { t := [AV.sl 0 off len 1 cap, .bad, .bad, AV.i IntKind.i64 (Fv (Av (Prod.fst a) (Prod.fst (Prod.snd a)) s 0)), AV.i IntKind.i64 (IntKind.wrap IntKind.i64 (Prod.fst (Prod.snd a) + ↑(ByteArray.size s))), .bad, .bad, AV.sl 0 off len 1 cap, AV.i IntKind.i64 ↑len, AV.i IntKind.i64 (IntKind.wrap IntKind.i64 (Prod.snd (Prod.snd a) + 1)), .bad, .bad, .bad, .bad, .bad, .bad, .bad, .bad, .bad, .bad, .bad, .bad, .bad, .bad, .bad], h := [Blk.cells c false] } { t := [AV.sl 0 off len 1 cap, .bad, .bad, AV.i IntKind.i64 (Fv (Av (Prod.fst a) (Prod.fst (Prod.snd a)) s 0)), AV.i IntKind.i64 (IntKind.wrap IntKind.i64 (Prod.fst (Prod.snd a) + ↑(ByteArray.size s))), .bad, .bad, AV.sl 0 off len 1 cap, AV.i IntKind.i64 ↑len, AV.i IntKind.i64 (IntKind.wrap IntKind.i64 (Prod.snd (Prod.snd a) + 1)), .bad, .bad, .bad, .bad, .bad, .bad, .bad, .bad, .bad, .bad, .bad, .bad, .bad, .bad, .bad], h := [Blk.cells c false] } ∧ ∃ (m : Nat), Holds (m < n) ∧ I m (Fv (Av (Prod.fst a) (Prod.fst (Prod.snd a)) s 0), IntKind.wrap IntKind.i64 (Prod.fst (Prod.snd a) + ↑(ByteArray.size s)), IntKind.wrap IntKind.i64 (Prod.snd (Prod.snd a) + 1))) (R (AV.i IntKind.i64 (IntKind.wrap IntKind.i64 (65535 - Prod.fst a))) [Blk.cells c false])) := by kernel_rfl
theorem vc13n (Fv : Int → Int) (Av : Int → Int → ByteArray → Int → Int) (R : AV → Hp → Prop) : (wpFn P (tcons 48 (t24 Fv) (tcons 49 (t25 Av) tnil)) noW (head13 .sn 0 []) 0 Go.Proofs.Try.f40 [.sn] [] R) = (Wk 0 { t := [AV.sn, .bad, .bad, AV.i IntKind.i64 0, AV.i IntKind.i64 0, .bad, .bad, AV.sn, AV.i IntKind.i64 0, AV.i IntKind.i64 0, .bad, .bad, .bad, .bad, .bad, .bad, .bad, .bad, .bad, .bad, .bad, .bad, .bad, .bad, .bad], h := [] } { t := [AV.sn, .bad, .bad, AV.i IntKind.i64 0, AV.i IntKind.i64 0, .bad, .bad, AV.sn, AV.i IntKind.i64 0, AV.i IntKind.i64 0, .bad, .bad, .bad, .bad, .bad, .bad, .bad, .bad, .bad, .bad, .bad, .bad, .bad, .bad, .bad], h := [] } ∧ ∃ (I : Nat → Int × Int × Int → Prop), ∃ (n : Nat), I n (0, 0, 0) ∧ ∀ (a : Int × Int × Int) (n : Nat), I n a → br (decide (Prod.snd (Prod.snd a) < ↑0)) False (R (AV.i IntKind.i64 (IntKind.wrap IntKind.i64 (65535 - Prod.fst a))) [])) := by kernel_rfl
theorem vc26 (off len : Nat) (cap : Option Nat) (c : List AV) (R : AV → Hp → Prop) : (wpFn P tnil noW (head26 (.sl 0 off len 1 cap) [.cells c false]) 0 Go.Proofs.Try.f50 [.sl 0 off len 1 cap] [.cells c false] R) = (Wk 0 { t := [AV.sl 0 off len 1 cap, .bad, .bad, AV.i IntKind.i64 0, AV.i IntKind.i64 0, .bad, .bad, .bad, .bad, .bad, .bad, .bad, .bad, .bad, .bad, .bad, .bad, .bad, .bad, .bad, .bad, .bad, .bad, .bad, .bad], h := [Blk.cells c false] } { t := [AV.sl 0 off len 1 cap, .bad, .bad, AV.i IntKind.i64 0, AV.i IntKind.i64 0, .bad, .bad, .bad, .bad, .bad, .bad, .bad, .bad, .bad, .bad, .bad, .bad, .bad, .bad, .bad, .bad, .bad, .bad, .bad, .bad], h := [Blk.cells c false] } ∧ ∃ (I : Nat → Int × Int → Prop), ∃ (n : Nat), I n (0, 0) ∧ ∀ (a : Int × Int) (n : Nat), I n a → br (decide (Prod.snd a < ↑len)) (Holds (0 ≤ Prod.snd a ∧ Prod.snd a < ↑len) ∧ ∃ (n_1 : Int), Holds (c[off + Int.toNat (Prod.snd a) * 1]? = some (AV.i IntKind.i64 n_1)) ∧ Wk 0 { t := [AV.sl 0 off len 1 cap, .bad, .bad, AV.i IntKind.i64 (IntKind.wrap IntKind.i64 (Prod.fst a + n_1)), AV.i IntKind.i64 (IntKind.wrap IntKind.i64 (Prod.snd a + 1)), .bad, .bad, .bad, .bad, .bad, .bad, .bad, .bad, .bad, .bad, .bad, .bad, .bad, .bad, .bad, .bad, .bad, .bad, .bad, .bad], h := [Blk.cells c false] } { t := [AV.sl 0 off len 1 cap, .bad, .bad, AV.i IntKind.i64 (IntKind.wrap IntKind.i64 (Prod.fst a + n_1)), AV.i IntKind.i64 (IntKind.wrap IntKind.i64 (Prod.snd a + 1)), .bad, .bad, .bad, .bad, .bad, .bad, .bad, .bad, .bad, .bad, .bad, .bad, .bad, .bad, .bad, .bad, .bad, .bad, .bad, .bad], h := [Blk.cells c false] } ∧ ∃ (m : Nat), Holds (m < n) ∧ I m (IntKind.wrap IntKind.i64 (Prod.fst a + n_1), IntKind.wrap IntKind.i64 (Prod.snd a + 1))) (Wk 0 { t := [.bad, .bad, .bad, AV.i IntKind.i64 (Prod.fst a), .bad, .bad, .bad, .bad, .bad, .bad, .bad, .bad, .bad, .bad, .bad, .bad, .bad, .bad, .bad, .bad, .bad, .bad, .bad, .bad, .bad], h := [Blk.cells c false] } { t := [.bad, .bad, .bad, AV.i IntKind.i64 (Prod.fst a), .bad, .bad, .bad, .bad, .bad, .bad, .bad, .bad, .bad, .bad, .bad, .bad, .bad, .bad, .bad, .bad, .bad, .bad, .bad, .bad, .bad], h := [Blk.cells c false] } ∧ ∃ (I : Nat → Int → Prop), ∃ (n : Nat), I n (Prod.fst a) ∧ ∀ (a : Int) (n : Nat), I n a → br (decide (a > 65535)) (Wk 0 { t := [.bad, .bad, .bad, AV.i IntKind.i64 (IntKind.wrap IntKind.i64 (IntKind.wrap IntKind.i64 (Int.tdiv a 65536) + Int.tmod a 65536)), .bad, .bad, .bad, .bad, .bad, .bad, .bad, .bad, .bad, .bad, .bad, .bad, .bad, .bad, .bad, .bad, .bad, .bad, .bad, .bad, .bad], h := [Blk.cells c false] } { t := [.bad, .bad, .bad, AV.i IntKind.i64 (IntKind.wrap IntKind.i64 (IntKind.wrap IntKind.i64 (Int.tdiv a 65536) + Int.tmod a 65536)), .bad, .bad, .bad, .bad, .bad, .bad, .bad, .bad, .bad, .bad, .bad, .bad, .bad, .bad, .bad, .bad, .bad, .bad, .bad, .bad, .bad], h := [Blk.cells c false] } ∧ ∃ (m : Nat), Holds (m < n) ∧ I m (IntKind.wrap IntKind.i64 (IntKind.wrap IntKind.i64 (Int.tdiv a 65536) + Int.tmod a 65536))) (R (AV.i IntKind.i64 a) [Blk.cells c false]))) := by kernel_rfl
theorem vc26n (R : AV → Hp → Prop) : (wpFn P tnil noW (head26 .sn []) 0 Go.Proofs.Try.f50 [.sn] [] R) = (Wk 0 { t := [AV.sn, .bad, .bad, AV.i IntKind.i64 0, AV.i IntKind.i64 0, .bad, .bad, .bad, .bad, .bad, .bad, .bad, .bad, .bad, .bad, .bad, .bad, .bad, .bad, .bad, .bad, .bad, .bad, .bad, .bad], h := [] } { t := [AV.sn, .bad, .bad, AV.i IntKind.i64 0, AV.i IntKind.i64 0, .bad, .bad, .bad, .bad, .bad, .bad, .bad, .bad, .bad, .bad, .bad, .bad, .bad, .bad, .bad, .bad, .bad, .bad, .bad, .bad], h := [] } ∧ ∃ (I : Nat → Int × Int → Prop), ∃ (n : Nat), I n (0, 0) ∧ ∀ (a : Int × Int) (n : Nat), I n a → br (decide (Prod.snd a < 0)) False (Wk 0 { t := [.bad, .bad, .bad, AV.i IntKind.i64 (Prod.fst a), .bad, .bad, .bad, .bad, .bad, .bad, .bad, .bad, .bad, .bad, .bad, .bad, .bad, .bad, .bad, .bad, .bad, .bad, .bad, .bad, .bad], h := [] } { t := [.bad, .bad, .bad, AV.i IntKind.i64 (Prod.fst a), .bad, .bad, .bad, .bad, .bad, .bad, .bad, .bad, .bad, .bad, .bad, .bad, .bad, .bad, .bad, .bad, .bad, .bad, .bad, .bad, .bad], h := [] } ∧ ∃ (I : Nat → Int → Prop), ∃ (n : Nat), I n (Prod.fst a) ∧ ∀ (a : Int) (n : Nat), I n a → br (decide (a > 65535)) (Wk 0 { t := [.bad, .bad, .bad, AV.i IntKind.i64 (IntKind.wrap IntKind.i64 (IntKind.wrap IntKind.i64 (Int.tdiv a 65536) + Int.tmod a 65536)), .bad, .bad, .bad, .bad, .bad, .bad, .bad, .bad, .bad, .bad, .bad, .bad, .bad, .bad, .bad, .bad, .bad, .bad, .bad, .bad, .bad], h := [] } { t := [.bad, .bad, .bad, AV.i IntKind.i64 (IntKind.wrap IntKind.i64 (IntKind.wrap IntKind.i64 (Int.tdiv a 65536) + Int.tmod a 65536)), .bad, .bad, .bad, .bad, .bad, .bad, .bad, .bad, .bad, .bad, .bad, .bad, .bad, .bad, .bad, .bad, .bad, .bad, .bad, .bad, .bad], h := [] } ∧ ∃ (m : Nat), Holds (m < n) ∧ I m (IntKind.wrap IntKind.i64 (IntKind.wrap IntKind.i64 (Int.tdiv a 65536) + Int.tmod a 65536))) (R (AV.i IntKind.i64 a) []))) := by kernel_rfl
theorem vc27 (s : ByteArray) (R : AV → Hp → Prop) : (wpFn P tnil noW head27 0 Go.Proofs.Try.f46 [.s s] [] R) = (∃ (J : ByteArray → Prop), br (Int.tmod (↑(ByteArray.size s)) 2 == 1) (Holds (1 ≤ List.length [AV.i IntKind.u8 0]) ∧ ∃ (l : List Int), Holds (numsOf [AV.i IntKind.u8 0] = some l) ∧ Holds (ByteArray.size s + ByteArray.size (textOf l) ≤ 9223372036854775807) ∧ Wk 0 { t := [AV.s (s ++ textOf l), .bad, .bad, AV.sn, .bad, .bad, .bad, .bad, .bad, .bad, .bad, .bad, .bad, .bad, .bad, .bad, .bad, .bad, .bad, .bad, .bad, .bad, .bad, .bad, .bad, .bad, .bad, .bad, .bad, .bad, .bad, .bad, .bad, .bad], h := [Blk.cells [AV.i IntKind.u8 0] true] } { t := [AV.s (s ++ textOf l), .bad, .bad, AV.sn, .bad, .bad, .bad, .bad, .bad, .bad, .bad, .bad, .bad, .bad, .bad, .bad, .bad, .bad, .bad, .bad, .bad, .bad, .bad, .bad, .bad, .bad, .bad, .bad, .bad, .bad, .bad, .bad, .bad, .bad], h := [] } ∧ J (s ++ textOf l)) (Wk 0 { t := [AV.s s, .bad, .bad, AV.sn, .bad, .bad, .bad, .bad, .bad, .bad, .bad, .bad, .bad, .bad, .bad, .bad, .bad, .bad, .bad, .bad, .bad, .bad, .bad, .bad, .bad, .bad, .bad, .bad, .bad, .bad, .bad, .bad, .bad, .bad], h := [] } { t := [AV.s s, .bad, .bad, AV.sn, .bad, .bad, .bad, .bad, .bad, .bad, .bad, .bad, .bad, .bad, .bad, .bad, .bad, .bad, .bad, .bad, .bad, .bad, .bad, .bad, .bad, .bad, .bad, .bad, .bad, .bad, .bad, .bad, .bad, .bad], h := [] } ∧ J s) ∧ ∀ (a : ByteArray), J a → Wk 0 { t := [AV.s a, .bad, .bad, AV.sn, AV.i IntKind.i64 0, .bad, .bad, .bad, .bad, .bad, .bad, .bad, .bad, .bad, .bad, .bad, .bad, .bad, .bad, .bad, .bad, .bad, .bad, .bad, .bad, .bad, .bad, .bad, .bad, .bad, .bad, .bad, .bad, .bad], h := [] } { t := [AV.s a, .bad, .bad, AV.sn, AV.i IntKind.i64 0, .bad, .bad, .bad, .bad, .bad, .bad, .bad, .bad, .bad, .bad, .bad, .bad, .bad, .bad, .bad, .bad, .bad, .bad, .bad, .bad, .bad, .bad, .bad, .bad, .bad, .bad, .bad, .bad, .bad], h := [] } ∧ ∃ (I : Nat → ByteArray × Int ⊕ ByteArray × Int × Nat × List AV → Prop), ∃ (n : Nat), I n (Sum.inl (a, 0)) ∧ (∀ (a : ByteArray × Int) (n : Nat), I n (Sum.inl a) → br (decide (Prod.snd a < ↑(ByteArray.size (Prod.fst a)))) (Holds (0 ≤ Prod.snd a) ∧ ∃ (b : UInt8), Holds ((Prod.fst a)[Int.toNat (Prod.snd a)]? = some b) ∧ Holds (0 ≤ IntKind.wrap IntKind.i64 (Prod.snd a + 1)) ∧ ∃ (b_1 : UInt8), Holds ((Prod.fst a)[Int.toNat (IntKind.wrap IntKind.i64 (Prod.snd a + 1))]? = some b_1) ∧ Holds (1 ≤ List.length [AV.i IntKind.i64 (IntKind.wrap IntKind.i64 (IntKind.wrap IntKind.i64 (256 * IntKind.wrap IntKind.i64 ↑(UInt8.toNat b)) + IntKind.wrap IntKind.i64 ↑(UInt8.toNat b_1)))]) ∧ Holds (8 ≤ 140737488355328) ∧ Wk 0 { t := [AV.s (Prod.fst a), .bad, .bad, AV.sl 1 0 1 1 none, AV.i IntKind.i64 (IntKind.wrap IntKind.i64 (Prod.snd a + 2)), .bad, .bad, .bad, .bad, .bad, .bad, .bad, .bad, .bad, .bad, .bad, .bad, .bad, .bad, .bad, .bad, .bad, .bad, .bad, .bad, .bad, .bad, .bad, .bad, .bad, .bad, .bad, .bad, .bad], h := [Blk.cells [AV.i IntKind.i64 (IntKind.wrap IntKind.i64 (IntKind.wrap IntKind.i64 (256 * IntKind.wrap IntKind.i64 ↑(UInt8.toNat b)) + IntKind.wrap IntKind.i64 ↑(UInt8.toNat b_1)))] true, Blk.cells [AV.i IntKind.i64 (IntKind.wrap IntKind.i64 (IntKind.wrap IntKind.i64 (256 * IntKind.wrap IntKind.i64 ↑(UInt8.toNat b)) + IntKind.wrap IntKind.i64 ↑(UInt8.toNat b_1)))] true] } { t := [AV.s a.1, .bad, .bad, AV.sl 0 0 1 1 none, AV.i IntKind.i64 (IntKind.wrap IntKind.i64 (Prod.snd a + 2)), .bad, .bad, .bad, .bad, .bad, .bad, .bad, .bad, .bad, .bad, .bad, .bad, .bad, .bad, .bad, .bad, .bad, .bad, .bad, .bad, .bad, .bad, .bad, .bad, .bad, .bad, .bad, .bad, .bad], h := [Blk.cells [AV.i IntKind.i64 (IntKind.wrap IntKind.i64 (IntKind.wrap IntKind.i64 (256 * IntKind.wrap IntKind.i64 ↑(UInt8.toNat b)) + IntKind.wrap IntKind.i64 ↑(UInt8.toNat b_1)))] true] } ∧ ∃ (m : Nat), Holds (m < n) ∧ I m (Sum.inr (Prod.fst a, IntKind.wrap IntKind.i64 (Prod.snd a + 2), 1, [AV.i IntKind.i64 (IntKind.wrap IntKind.i64 (IntKind.wrap IntKind.i64 (256 * IntKind.wrap IntKind.i64 ↑(UInt8.toNat b)) + IntKind.wrap IntKind.i64 ↑(UInt8.toNat b_1)))]))) (R AV.sn [])) ∧ ∀ (b : ByteArray × Int × Nat × List AV) (n : Nat), I n (Sum.inr b) → br (decide (Prod.fst (Prod.snd b) < ↑(ByteArray.size (Prod.fst b)))) (Holds (0 ≤ Prod.fst (Prod.snd b)) ∧ ∃ (b_1 : UInt8), Holds ((Prod.fst b)[Int.toNat (Prod.fst (Prod.snd b))]? = some b_1) ∧ Holds (0 ≤ IntKind.wrap IntKind.i64 (Prod.fst (Prod.snd b) + 1)) ∧ ∃ (b_2 : UInt8), Holds ((Prod.fst b)[Int.toNat (IntKind.wrap IntKind.i64 (Prod.fst (Prod.snd b) + 1))]? = some b_2) ∧ Holds (1 ≤ List.length [AV.i IntKind.i64 (IntKind.wrap IntKind.i64 (IntKind.wrap IntKind.i64 (256 * IntKind.wrap IntKind.i64 ↑(UInt8.toNat b_1)) + IntKind.wrap IntKind.i64 ↑(UInt8.toNat b_2)))]) ∧ Holds ((Prod.fst (Prod.snd (Prod.snd b)) + 1) * 8 ≤ 140737488355328) ∧ Holds (List.all [AV.i IntKind.i64 (IntKind.wrap IntKind.i64 (IntKind.wrap IntKind.i64 (256 * IntKind.wrap IntKind.i64 ↑(UInt8.toNat b_1)) + IntKind.wrap IntKind.i64 ↑(UInt8.toNat b_2)))] AV.one = true) ∧ Holds (0 + Prod.fst (Prod.snd (Prod.snd b)) * 1 = List.length (Prod.snd (Prod.snd b)).2) ∧ Wk 0 { t := [AV.s (Prod.fst b), .bad, .bad, AV.sl 2 0 (Prod.fst (Prod.snd (Prod.snd b)) + 1) 1 none, AV.i IntKind.i64 (IntKind.wrap IntKind.i64 (Prod.fst (Prod.snd b) + 2)), .bad, .bad, .bad, .bad, .bad, .bad, .bad, .bad, .bad, .bad, .bad, .bad, .bad, .bad, .bad, .bad, .bad, .bad, .bad, .bad, .bad, .bad, .bad, .bad, .bad, .bad, .bad, .bad, .bad], h := [Blk.dead, Blk.cells [AV.i IntKind.i64 (IntKind.wrap IntKind.i64 (IntKind.wrap IntKind.i64 (256 * IntKind.wrap IntKind.i64 ↑(UInt8.toNat b_1)) + IntKind.wrap IntKind.i64 ↑(UInt8.toNat b_2)))] true, Blk.cells ((Prod.snd (Prod.snd b)).2 ++ [AV.i IntKind.i64 (IntKind.wrap IntKind.i64 (IntKind.wrap IntKind.i64 (256 * IntKind.wrap IntKind.i64 ↑(UInt8.toNat b_1)) + IntKind.wrap IntKind.i64 ↑(UInt8.toNat b_2)))]) true] } { t := [AV.s b.1, .bad, .bad, AV.sl 0 0 (Prod.fst (Prod.snd (Prod.snd b)) + 1) 1 none, AV.i IntKind.i64 (IntKind.wrap IntKind.i64 (Prod.fst (Prod.snd b) + 2)), .bad, .bad, .bad, .bad, .bad, .bad, .bad, .bad, .bad, .bad, .bad, .bad, .bad, .bad, .bad, .bad, .bad, .bad, .bad, .bad, .bad, .bad, .bad, .bad, .bad, .bad, .bad, .bad, .bad], h := [Blk.cells ((Prod.snd (Prod.snd b)).2 ++ [AV.i IntKind.i64 (IntKind.wrap IntKind.i64 (IntKind.wrap IntKind.i64 (256 * IntKind.wrap IntKind.i64 ↑(UInt8.toNat b_1)) + IntKind.wrap IntKind.i64 ↑(UInt8.toNat b_2)))]) true] } ∧ ∃ (m : Nat), Holds (m < n) ∧ I m (Sum.inr (Prod.fst b, IntKind.wrap IntKind.i64 (Prod.fst (Prod.snd b) + 2), Prod.fst (Prod.snd (Prod.snd b)) + 1, (Prod.snd (Prod.snd b)).2 ++ [AV.i IntKind.i64 (IntKind.wrap IntKind.i64 (IntKind.wrap IntKind.i64 (256 * IntKind.wrap IntKind.i64 ↑(UInt8.toNat b_1)) + IntKind.wrap IntKind.i64 ↑(UInt8.toNat b_2)))]))) (R (AV.sl 0 0 (Prod.fst (Prod.snd (Prod.snd b))) 1 none) [Blk.cells (Prod.snd (Prod.snd (Prod.snd b))) true])) := by kernel_rfl
theorem vc14 (Wv : ByteArray → List Int) (ok : List Int → Prop) (r : List Int → Int) (s : ByteArray) (R : AV → Hp → Prop) : (wpFn P (tcons 46 (t27 Wv) (tcons 50 (tlist (.i .i64) ok fun l => .i .i64 (r l)) tnil)) noW noL 0 Go.Proofs.Try.f41 [.s s] [] R) = (Holds (ByteArray.size s ≤ 1073741824) ∧ (Holds (Wv s = []) → Holds (ok []) ∧ R (AV.i IntKind.i64 (IntKind.wrap IntKind.i64 (65535 - r []))) []) ∧ (Holds (Wv s ≠ []) → ∃ (l : List Int), Holds (List.take (List.length (Wv s)) (List.drop 0 (List.map (AV.i IntKind.i64) (Wv s))) = List.map (AV.i IntKind.i64) l) ∧ Holds (List.length l = List.length (Wv s)) ∧ Holds (ok l) ∧ R (AV.i IntKind.i64 (IntKind.wrap IntKind.i64 (65535 - r l))) [Blk.cells (List.map (AV.i IntKind.i64) (Wv s)) true])) := by kernel_rfl
theorem vc15 (ok : List ByteArray → Prop) (r : List ByteArray → Int) (off len : Nat) (cap : Option Nat) (c : List AV) (R : AV → Hp → Prop) : (wpFn P (tcons 40 (tlist .s ok fun l => .i .i64 (r l)) tnil) noW noL 0 Go.Proofs.Try.f43 [.sl 0 off len 1 cap] [.cells c false] R) = (∃ (l : List ByteArray), Holds (List.take len (List.drop off c) = List.map AV.s l) ∧ Holds (List.length l = len) ∧ Holds (ok l) ∧ R (AV.bo (r l == 0)) [Blk.cells c false]) := by kernel_rfl
theorem vc15n (ok : List ByteArray → Prop) (r : List ByteArray → Int) (R : AV → Hp → Prop) : (wpFn P (tcons 40 (tlist .s ok fun l => .i .i64 (r l)) tnil) noW noL 0 Go.Proofs.Try.f43 [.sn] [] R) = (Holds (ok []) ∧ R (AV.bo (r [] == 0)) []) := by kernel_rfl
open Go.Proofs.Ythlehnnmkadigaa.SumMath
theorem i64w {x : Int} (h0 : -9223372036854775808 ≤ x) (h1 : x ≤ 9223372036854775807) : IntKind.wrap .i64 x = x := IntWalk.i64_in _ ⟨by omega, by omega⟩
theorem run24 {n : Int} (h0 : 0 ≤ n) (h1 : n ≤ 4611686018427387904) : wpFn P tnil noW head24 0 Go.Proofs.Try.f48 [.i .i64 n] [] fun v _ => v = .i .i64 (F n) := by
  rw [vc24]; simp only [wk_and]
  refine ⟨fun k x => 0 ≤ x ∧ x ≤ 4611686018427387904 ∧ F x = F n ∧ k = x.toNat, n.toNat, ⟨h0, h1, rfl, rfl⟩, ?_⟩
  rintro x k ⟨a1, a2, a3, rfl⟩
  refine br_intro (fun hc => ?_) (fun hc => ?_)
  · have hc : 65535 < x := by simpa using hc
    have h16 : (2 : Int) ^ min (Int.toNat 16) (IntKind.bits IntKind.i64) = 65536 := by decide
    rw [h16, and_low, Int.fdiv_eq_ediv_of_nonneg _ (by decide), i64w (by omega) (by omega)]
    exact ⟨_, ⟨by omega⟩, by omega, by omega, by rw [F_step hc]; exact a3, rfl⟩
  · have hc : x ≤ 65535 := by simpa using hc
    rw [← a3, F_small a1 hc]
def mask (t : Bool) : Int := if t then 255 else 0
theorem val_eq (t e : Bool) (a : Int) (i : Nat) (b : UInt8) (ha : 0 ≤ a) (he : e = decide (a % 2 = 0)) (hs : a + i ≤ 4611686018427387904) :
    (Int.tmod (IntKind.wrap IntKind.i64 (a + i)) 2 == 0) = pe e i ∧ bits .xor .u8 (b.toNat : Int) (mask t) = wv t b := by
  have hx : bits .xor .u8 (b.toNat : Int) (mask t) = wv t b := by
    cases t
    · exact xor_0 b
    · exact xor_255 b
  have hw : IntKind.wrap .i64 (a + i) = a + i := i64w (by omega) (by omega)
  have hm : Int.tmod (a + i) 2 = (a + i) % 2 := Int.tmod_eq_emod_of_nonneg (by omega)
  refine ⟨?_, hx⟩
  rw [hw, hm]
  subst he
  unfold pe
  by_cases h1 : i % 2 = 0
  · rw [if_pos h1]
    rw [Bool.eq_iff_iff]; simp only [beq_iff_eq, decide_eq_true_eq]; omega
  · rw [if_neg h1]
    rw [Bool.eq_iff_iff]; simp only [beq_iff_eq, Bool.not_eq_true', decide_eq_false_iff_not]; omega
theorem run25 {T a : Int} {s : ByteArray} (t : Bool) (h1 : okT T s.size) (h2 : okA a s.size) : wpFn P tnil noW (head25 a (mask t) s) 0 Go.Proofs.Try.f49 [.i .i64 T, .i .i64 a, .s s, .i .u8 (mask t)] [] fun v _ => v = .i .i64 (T + ws t (decide (a % 2 = 0)) s.data.toList) := by
  obtain ⟨h1, h1'⟩ := h1
  obtain ⟨h2, h2'⟩ := h2
  rw [vc25]; simp only [wk_and]
  refine ⟨fun k q => ∃ i : Nat, q.2 = i ∧ i + k = s.size ∧ 0 ≤ q.1 ∧ q.1 + 65280 * k ≤ 4611686018427387904 ∧ q.1 + ws t (pe (decide (a % 2 = 0)) i) (s.data.toList.drop i) = T + ws t (decide (a % 2 = 0)) s.data.toList, s.size, ⟨0, rfl, by omega, h1, h1', rfl⟩, ?_⟩
  rintro ⟨x, y⟩ k ⟨i, rfl, hk, b1, b2, b3⟩
  simp only at b1 b2 b3 ⊢
  refine br_intro (fun hc => ?_) (fun hc => ?_)
  · have hc : (i : Int) < s.size := by simpa using hc
    have hlt : i < s.size := by omega
    refine ⟨⟨by omega⟩, s[i], ⟨?_⟩, ?_⟩
    · rw [Int.toNat_natCast, getElem?_pos s i hlt]
    have hv := val_eq t (decide (a % 2 = 0)) a i s[i] h2 rfl (by omega)
    have hwr := wv_range t s[i]
    rw [hv.1, hv.2, i64w (x := wv t s[i]) (by omega) (by omega), i64w (x := wv t s[i] * 256) (by omega) (by omega), i64w (x := x + wv t s[i] * 256) (by omega) (by omega), i64w (x := x + wv t s[i]) (by omega) (by omega), i64w (x := (i : Int) + 1) (by omega) (by omega)]
    have hd : s.data.toList.drop i = s[i] :: s.data.toList.drop (i + 1) := by
      rw [List.drop_eq_getElem_cons (show i < s.data.toList.length by rw [Array.length_toList]; exact hlt)]
      rfl
    have hpe : (!pe (decide (a % 2 = 0)) i) = pe (decide (a % 2 = 0)) (i + 1) := by
      unfold pe; by_cases h1 : i % 2 = 0
      · rw [if_pos h1, if_neg (by omega)]
      · rw [if_neg h1, if_pos (by omega), Bool.not_not]
    rw [hd, ws, hpe] at b3
    refine br_intro (fun hp => ?_) (fun hp => ?_)
    · rw [hp, if_pos rfl] at b3
      exact ⟨k - 1, ⟨by omega⟩, i + 1, by omega, by omega, by omega, by omega, by omega⟩
    · rw [hp, if_neg (by decide)] at b3
      exact ⟨k - 1, ⟨by omega⟩, i + 1, by omega, by omega, by omega, by omega, by omega⟩
  · have hc : (s.size : Int) ≤ i := by simpa using hc
    have hnil : s.data.toList.drop i = [] := List.drop_eq_nil_of_le (by rw [Array.length_toList]; show s.size ≤ i; omega)
    rw [hnil] at b3
    simp only [ws] at b3
    congr 1; omega
def cat (l : List ByteArray) : List UInt8 := (l.map fun s => s.data.toList).flatten
theorem cat_append (a b : List ByteArray) : cat (a ++ b) = cat a ++ cat b := by simp [cat]
theorem cat_take {l : List ByteArray} {i : Nat} (hi : i < l.length) : cat (l.take (i + 1)) = cat (l.take i) ++ l[i].data.toList := by
  rw [← List.take_append_getElem hi, cat_append]; simp [cat]
theorem cat_le {l : List ByteArray} (n : Nat) : (cat (l.take n)).length ≤ (cat l).length := by
  conv => rhs; rw [← List.take_append_drop n l, cat_append, List.length_append]
  omega
def Fv (n : Int) : Int := F n
def Av (T a : Int) (s : ByteArray) (m : Int) : Int := T + ws (m == 255) (decide (a % 2 = 0)) s.data.toList
def okL (l : List ByteArray) : Prop := (cat l).length ≤ 1073741824 ∧ l.length ≤ 1073741824
def Ov (l : List ByteArray) : Int := 65535 - F (ws false true (cat l))
theorem run13 {off len : Nat} {cap : Option Nat} {c : List AV} {l : List ByteArray} (hc : (c.drop off).take len = l.map .s) (hl : l.length = len) (hok : okL l) :
    wpFn P (tcons 48 (t24 F) (tcons 49 (t25 Av) tnil)) noW (head13 (.sl 0 off len 1 cap) len [.cells c false]) 0 Go.Proofs.Try.f40 [.sl 0 off len 1 cap] [.cells c false] fun v _ => v = .i .i64 (Ov l) := by
  rw [vc13]; simp only [wk_and]
  refine ⟨fun k q => ∃ i : Nat, q = (F (ws false true (cat (l.take i))), ((cat (l.take i)).length : Int), (i : Int)) ∧ i + k = len, len, ⟨0, rfl, by omega⟩, ?_⟩
  rintro q k ⟨i, rfl, hk⟩
  simp only
  refine br_intro (fun h => ?_) (fun h => ?_)
  · have h : (i : Int) < len := by simpa using h
    have hi : i < l.length := by omega
    have hle := cat_le (l := l) (i + 1)
    rw [cat_take hi, List.length_append] at hle
    obtain ⟨hok, hok2⟩ := hok
    have hsz : l[i].size = l[i].data.toList.length := by rw [Array.length_toList]; rfl
    have hF := F_range (ws false true (cat (l.take i)))
    have hw := ws_range false l[i].data.toList (decide (((cat (l.take i)).length : Int) % 2 = 0))
    have hw0 := ws_range false (cat (l.take i)) true
    have hp : decide (((cat (l.take i)).length : Int) % 2 = 0) = pe true (cat (l.take i)).length := by
      unfold pe
      by_cases c : (cat (l.take i)).length % 2 = 0
      · rw [if_pos c]; simp only [decide_eq_true_eq]; omega
      · rw [if_neg c]; simp only [Bool.not_true, decide_eq_false_iff_not]; omega
    refine ⟨⟨by omega, h⟩, l[i], ⟨by rw [Int.toNat_natCast, Nat.mul_one]; exact cell_of hc hl hi⟩, ⟨by unfold okT; omega⟩, ⟨by unfold okA; omega⟩, ⟨.inl rfl⟩, ⟨?_⟩, k - 1, ⟨by omega⟩, i + 1, ?_, by omega⟩
    · show 0 ≤ F (ws false true (cat (l.take i))) + ws false _ _ ∧ F (ws false true (cat (l.take i))) + ws false _ _ ≤ _
      omega
    · rw [i64w (by omega) (by omega), i64w (by omega) (by omega), cat_take hi]
      refine Prod.ext ?_ (Prod.ext ?_ ?_)
      · show F (F (ws false true (cat (l.take i))) + ws false _ _) = _
        rw [ws_append, hp, F_add hw0.1 (by rw [← hp]; omega)]
      · simp only [List.length_append]; omega
      · simp only; omega
  · have h : (len : Int) ≤ i := by simpa using h
    have : l.take i = l := List.take_of_length_le (by omega)
    rw [this]
    have hF := F_range (ws false true (cat l))
    rw [i64w (by omega) (by omega)]; rfl
theorem run13n : wpFn P (tcons 48 (t24 F) (tcons 49 (t25 Av) tnil)) noW (head13 .sn 0 []) 0 Go.Proofs.Try.f40 [.sn] [] fun v _ => v = .i .i64 (Ov []) := by
  rw [vc13n]; simp only [wk_and]
  refine ⟨fun k q => q = (0, 0, 0), 0, rfl, ?_⟩
  rintro q k rfl
  rfl
def okI (l : List Int) : Prop := (∀ x ∈ l, 0 ≤ x ∧ x ≤ 65535) ∧ l.length ≤ 1099511627776
theorem loop26 {x : Int} {k : Nat} (n : Int) (a1 : 0 ≤ x) (a2 : x ≤ 4611686018427387904) (a3 : F x = n) (hc : 65535 < x) :
    0 ≤ IntKind.wrap .i64 (IntKind.wrap .i64 (Int.tdiv x 65536) + Int.tmod x 65536) ∧ IntKind.wrap .i64 (IntKind.wrap .i64 (Int.tdiv x 65536) + Int.tmod x 65536) < x ∧ F (IntKind.wrap .i64 (IntKind.wrap .i64 (Int.tdiv x 65536) + Int.tmod x 65536)) = n := by
  rw [Int.tdiv_eq_ediv_of_nonneg a1, Int.tmod_eq_emod_of_nonneg a1, i64w (x := x / 65536) (by omega) (by omega), i64w (by omega) (by omega), F_step hc]
  exact ⟨by omega, by omega, a3⟩
theorem run26 {off len : Nat} {cap : Option Nat} {c : List AV} {l : List Int} (hc : (c.drop off).take len = l.map (.i .i64)) (hl : l.length = len) (hok : okI l) :
    wpFn P tnil noW (head26 (.sl 0 off len 1 cap) [.cells c false]) 0 Go.Proofs.Try.f50 [.sl 0 off len 1 cap] [.cells c false] fun v _ => v = .i .i64 (F (isum l)) := by
  rw [vc26]; simp only [wk_and]
  have hR := isum_range (c := 65535) (by decide) l hok.1
  have hlen := hok.2
  refine ⟨fun k q => ∃ i : Nat, q.2 = (i : Int) ∧ i + k = len ∧ 0 ≤ q.1 ∧ q.1 + isum (l.drop i) = isum l, len, ⟨0, rfl, by omega, by omega, by simp⟩, ?_⟩
  rintro ⟨x, y⟩ k ⟨i, rfl, hk, b1, b2⟩
  simp only at b1 b2 ⊢
  refine br_intro (fun h => ?_) (fun h => ?_)
  · have h : (i : Int) < len := by simpa using h
    have hi : i < l.length := by omega
    have hd : l.drop i = l[i] :: l.drop (i + 1) := List.drop_eq_getElem_cons hi
    have hx := hok.1 l[i] (List.getElem_mem hi)
    have hr := isum_range (c := 65535) (by decide) (l.drop (i + 1)) (fun y hy => hok.1 y (List.mem_of_mem_drop hy))
    rw [hd, isum] at b2
    refine ⟨⟨by omega, h⟩, l[i], ⟨by rw [Int.toNat_natCast, Nat.mul_one]; exact cell_of hc hl hi⟩, k - 1, ⟨by omega⟩, i + 1, ?_, by omega, ?_, ?_⟩
    · rw [i64w (by omega) (by omega)]; omega
    · rw [i64w (by omega) (by omega)]; omega
    · rw [i64w (by omega) (by omega)]; omega
  · have h : (len : Int) ≤ i := by simpa using h
    have : l.drop i = [] := List.drop_eq_nil_of_le (by omega)
    rw [this, isum] at b2
    refine ⟨fun k x => 0 ≤ x ∧ x ≤ 4611686018427387904 ∧ F x = F (isum l) ∧ k = x.toNat, x.toNat, ⟨b1, by omega, by rw [← b2]; congr 1; omega, rfl⟩, ?_⟩
    rintro x k ⟨a1, a2, a3, rfl⟩
    refine br_intro (fun hc => ?_) (fun hc => ?_)
    · have hc : 65535 < x := by simpa using hc
      have := loop26 (k := 0) _ a1 a2 a3 hc
      exact ⟨_, ⟨by omega⟩, by omega, by omega, this.2.2, rfl⟩
    · have hc : x ≤ 65535 := by simpa using hc
      rw [← a3, F_small a1 hc]
theorem run26n : wpFn P tnil noW (head26 .sn []) 0 Go.Proofs.Try.f50 [.sn] [] fun v _ => v = .i .i64 (F (isum [])) := by
  rw [vc26n]; simp only [wk_and]
  refine ⟨fun k q => q = (0, 0), 0, rfl, ?_⟩
  rintro q k rfl
  show ∃ (I : Nat → Int → Prop) (n : Nat), _
  refine ⟨fun k q => q = 0, 0, rfl, ?_⟩
  rintro q k rfl
  rfl
def Wv (s : ByteArray) : List Int := words (padl s.data.toList)
theorem byte_at {s : ByteArray} {l : List UInt8} (hs : s.data.toList = l) {i : Nat} (hi : i < l.length) : s[i]? = some l[i] := by
  subst hs
  rw [getElem?_pos s i (by rw [Array.length_toList] at hi; exact hi)]
  rfl
theorem run27 {s : ByteArray} (hs : s.size ≤ 1073741824) {R : AV → Hp → Prop} (h0 : Wv s = [] → ∀ h1, R .sn h1)
    (h1 : Wv s ≠ [] → ∀ v h1, Wk 0 ⟨[v], h1⟩ ⟨[.sl 0 0 (Wv s).length 1 none], [.cells ((Wv s).map (.i .i64)) true]⟩ → R v h1) : wpFn P tnil noW head27 0 Go.Proofs.Try.f46 [.s s] [] R := by
  rw [vc27]; simp only [wk_and]
  have hsz : s.data.toList.length = s.size := by rw [Array.length_toList]; rfl
  have hev := padl_even s.data.toList
  have hpl := padl_len s.data.toList
  refine ⟨fun a => a.data.toList = padl s.data.toList, br_intro (fun h => ?_) (fun h => ?_), ?_⟩
  · have h : Int.tmod (s.size : Int) 2 = 1 := by simpa using h
    rw [Int.tmod_eq_emod_of_nonneg (by omega)] at h
    refine ⟨⟨by simp⟩, [0], ⟨rfl⟩, ⟨?_⟩, ?_, ?_⟩
    · show s.size + 1 ≤ _
      omega
    · exact Wk.rows [] List.nodup_nil rfl rfl rfl (by kernel_rfl)
    · unfold padl
      rw [if_pos (by omega)]
      simp [textOf]
  · have h : ¬ Int.tmod (s.size : Int) 2 = 1 := by simpa using h
    rw [Int.tmod_eq_emod_of_nonneg (by omega)] at h
    unfold padl
    rw [if_neg (by omega)]
  intro sp hsp
  generalize hD : padl s.data.toList = D at hsp hev hpl
  have hW : Wv s = words D := by unfold Wv; rw [hD]
  rw [hW] at h0 h1
  have hspz : sp.size = D.length := by rw [← hsp, Array.length_toList]; rfl
  have step : ∀ (i : Nat), i < D.length → i % 2 = 0 → ∃ (h1 : i < D.length) (h2 : i + 1 < D.length), D.drop i = D[i] :: D[i + 1] :: D.drop (i + 2) := by
    intro i hi he
    have h2 : i + 1 < D.length := by omega
    exact ⟨hi, h2, by rw [List.drop_eq_getElem_cons hi, List.drop_eq_getElem_cons h2]⟩
  have val : ∀ (a b : UInt8), IntKind.wrap .i64 (IntKind.wrap .i64 (256 * IntKind.wrap .i64 (a.toNat : Int)) + IntKind.wrap .i64 (b.toNat : Int)) = (a.toNat : Int) * 256 + (b.toNat : Int) := by
    intro a b
    have ha := a.toNat_lt; have hb := b.toNat_lt
    rw [i64w (x := (a.toNat : Int)) (by omega) (by omega), i64w (x := (b.toNat : Int)) (by omega) (by omega), i64w (x := 256 * (a.toNat : Int)) (by omega) (by omega), i64w (by omega) (by omega)]; omega
  refine ⟨fun k q => match q with
    | .inl a => a.1 = sp ∧ ∃ i : Nat, a.2 = (i : Int) ∧ i % 2 = 0 ∧ i + k = D.length ∧ words D = words (D.drop i)
    | .inr a => a.1 = sp ∧ ∃ (i : Nat) (done : List Int), a.2.1 = (i : Int) ∧ i % 2 = 0 ∧ i + k = D.length ∧ done ≠ [] ∧ done.length ≤ i ∧ words D = done ++ words (D.drop i) ∧ a.2.2.1 = done.length ∧ a.2.2.2 = done.map (.i .i64), D.length, ⟨rfl, 0, rfl, rfl, by omega, rfl⟩, ?_, ?_⟩
  · rintro ⟨s', y⟩ k ⟨e1, i, rfl, he, hk, hw⟩
    obtain rfl : s' = sp := e1
    simp only
    refine br_intro (fun h => ?_) (fun h => ?_)
    · have h : (i : Int) < s'.size := by simpa using h
      obtain ⟨g1, g2, hd⟩ := step i (by omega) he
      refine ⟨⟨by omega⟩, D[i], ⟨by rw [Int.toNat_natCast]; exact byte_at hsp g1⟩, ⟨by rw [i64w (by omega) (by omega)]; omega⟩, D[i + 1], ⟨?_⟩, ⟨by simp⟩, ⟨by decide⟩, ?_, k - 2, ⟨by omega⟩, trivial, i + 2, [(D[i].toNat : Int) * 256 + (D[i + 1].toNat : Int)], ?_, by omega, by omega, by simp, by simp, ?_, rfl, ?_⟩
      · rw [i64w (by omega) (by omega)]
        have : ((i : Int) + 1).toNat = i + 1 := by omega
        rw [this]; exact byte_at hsp g2
      · exact Wk.rows [1] (by decide) rfl rfl (gcR_one rfl rfl) (by kernel_rfl)
      · rw [i64w (by omega) (by omega)]; omega
      · rw [hw, hd]; rfl
      · rw [val]; rfl
    · have h : (s'.size : Int) ≤ i := by simpa using h
      rw [List.drop_eq_nil_of_le (by omega)] at hw
      exact h0 hw _
  · rintro ⟨s', y, n, c⟩ k ⟨e1, i, done, rfl, he, hk, hne, hdl, hw, hn, hc⟩
    obtain rfl : s' = sp := e1
    simp only at hn hc ⊢
    subst hn hc
    refine br_intro (fun h => ?_) (fun h => ?_)
    · have h : (i : Int) < s'.size := by simpa using h
      obtain ⟨g1, g2, hd⟩ := step i (by omega) he
      refine ⟨⟨by omega⟩, D[i], ⟨by rw [Int.toNat_natCast]; exact byte_at hsp g1⟩, ⟨by rw [i64w (by omega) (by omega)]; omega⟩, D[i + 1], ⟨?_⟩, ⟨by simp⟩, ⟨by omega⟩, ⟨rfl⟩, ⟨by simp⟩, ?_, k - 2, ⟨by omega⟩, trivial, i + 2, done ++ [(D[i].toNat : Int) * 256 + (D[i + 1].toNat : Int)], ?_, by omega, by omega, by simp, by simp; omega, ?_, by simp, ?_⟩
      · rw [i64w (by omega) (by omega)]
        have : ((i : Int) + 1).toNat = i + 1 := by omega
        rw [this]; exact byte_at hsp g2
      · refine Wk.rows [2] (by decide) rfl rfl (gcR_one rfl ?_) (by kernel_rfl)
        rw [unders_append, unders_map 0 _ (fun _ => rfl)]; rfl
      · rw [i64w (by omega) (by omega)]; omega
      · rw [hw, hd]; simp [words]
      · rw [val]; simp
    · have h : (s'.size : Int) ≤ i := by simpa using h
      rw [List.drop_eq_nil_of_le (by omega)] at hw
      simp only [words, List.append_nil] at hw
      rw [hw] at h1
      exact h1 hne _ _ (Wk.refl _ _)
def smallS (s : ByteArray) : Prop := s.size ≤ 1073741824
theorem size_len (s : ByteArray) : s.size = s.data.toList.length := by rw [Array.length_toList]; rfl
theorem add_list (s t : ByteArray) : (s ++ t).data.toList = s.data.toList ++ t.data.toList := by simp
def Rv (l : List ByteArray) : Bool := Ov l == 0
theorem run15 {off len : Nat} {cap : Option Nat} {c : List AV} {l : List ByteArray} (hc : (c.drop off).take len = l.map .s) (hl : l.length = len) (hok : okL l) :
    wpFn P (tcons 40 (tlist .s okL fun l => .i .i64 (Ov l)) tnil) noW noL 0 Go.Proofs.Try.f43 [.sl 0 off len 1 cap] [.cells c false] fun v _ => v = .bo (Rv l) := by
  rw [vc15]
  exact ⟨l, ⟨hc⟩, ⟨hl⟩, ⟨hok⟩, rfl⟩
theorem run15n : wpFn P (tcons 40 (tlist .s okL fun l => .i .i64 (Ov l)) tnil) noW noL 0 Go.Proofs.Try.f43 [.sn] [] fun v _ => v = .bo (Rv []) := by
  rw [vc15n]
  exact ⟨⟨by simp [okL, cat]⟩, rfl⟩
def Qv (s : ByteArray) : Int := 65535 - F (isum (Wv s))
theorem Wv_ok {s : ByteArray} (hs : smallS s) : okI (Wv s) := by
  have hs : s.size ≤ 1073741824 := hs
  have h1 := words_len (padl s.data.toList)
  have h2 := padl_len s.data.toList
  rw [← size_len] at h2
  exact ⟨words_range _, by unfold Wv; omega⟩
theorem run14 {s : ByteArray} (hs : smallS s) : wpFn P (tcons 46 (t27 Wv) (tcons 50 (tlist (.i .i64) okI fun l => .i .i64 (F (isum l))) tnil)) noW noL 0 Go.Proofs.Try.f41 [.s s] [] fun v _ => v = .i .i64 (Qv s) := by
  rw [vc14]
  have hF := fun n => F_range n
  have hw : ∀ n, IntKind.wrap .i64 (65535 - F n) = 65535 - F n := fun n => i64w (by have := hF n; omega) (by have := hF n; omega)
  refine ⟨⟨hs⟩, fun h => ⟨⟨by simp [okI]⟩, ?_⟩, fun h => ⟨Wv s, ⟨by rw [List.drop_zero, List.take_of_length_le (by rw [List.length_map]; exact Nat.le_refl _)]⟩, ⟨rfl⟩, ⟨Wv_ok hs⟩, ?_⟩⟩
  · rw [hw]; unfold Qv; rw [h.out]
  · rw [hw]; rfl
theorem mo : P.follows .mixedOrders = true := by kernel_rfl
theorem ok24 : fnOk1 P noW 48 Go.Proofs.Try.f48 := ⟨Go.Proofs.Try.func48, by kernel_rfl, by kernel_rfl, by kernel_rfl⟩
theorem ok25 : fnOk1 P noW 49 Go.Proofs.Try.f49 := ⟨Go.Proofs.Try.func49, by kernel_rfl, by kernel_rfl, by kernel_rfl⟩
theorem ok13 : fnOk1 P noW 40 Go.Proofs.Try.f40 := ⟨Go.Proofs.Try.func40, by kernel_rfl, by kernel_rfl, by kernel_rfl⟩
theorem ok15 : fnOk1 P noW 43 Go.Proofs.Try.f43 := ⟨Go.Proofs.Try.func43, by kernel_rfl, by kernel_rfl, by kernel_rfl⟩
theorem ok26 : fnOk1 P noW 50 Go.Proofs.Try.f50 := ⟨Go.Proofs.Try.func50, by kernel_rfl, by kernel_rfl, by kernel_rfl⟩
theorem ok27 : fnOk1 P noW 46 Go.Proofs.Try.f46 := ⟨Go.Proofs.Try.func46, by kernel_rfl, by kernel_rfl, by kernel_rfl⟩
theorem ok14 : fnOk1 P noW 41 Go.Proofs.Try.f41 := ⟨Go.Proofs.Try.func41, by kernel_rfl, by kernel_rfl, by kernel_rfl⟩
def S24 : Rel := Splain (fun n : Int => [.i .i64 n]) (fun n => 0 ≤ n ∧ n ≤ 4611686018427387904) fun n => .i .i64 (F n)
def mk25 (q : Int × Int × ByteArray × Bool) : List AV := [.i .i64 q.1, .i .i64 q.2.1, .s q.2.2.1, .i .u8 (mask q.2.2.2)]
def S25 : Rel := Splain mk25 (fun q => okT q.1 q.2.2.1.size ∧ okA q.2.1 q.2.2.1.size) fun q => .i .i64 (Av q.1 q.2.1 q.2.2.1 (mask q.2.2.2))
theorem f24_f : FollowsF (t24 F) (Cof S24) := by
  refine follows_of (Splain.det fun x y h => by simpa using h) fun args h K hk => ?_
  unfold t24 at hk
  split at hk
  · exact ⟨_, _, ⟨rfl, _, rfl, hk.1.out, rfl⟩, hk.2⟩
  · exact hk.elim
theorem mask_inj {a b : Bool} (h : mask a = mask b) : a = b := by cases a <;> cases b <;> first | rfl | exact absurd h (by decide)
theorem f25_f : FollowsF (t25 Av) (Cof S25) := by
  refine follows_of (Splain.det fun x y h => ?_) fun args h K hk => ?_
  · obtain ⟨a, b, c, d⟩ := x
    obtain ⟨a', b', c', d'⟩ := y
    simp only [mk25, List.cons.injEq, AV.i.injEq, AV.s.injEq, and_true, true_and] at h
    obtain ⟨rfl, rfl, rfl, h⟩ := h
    rw [mask_inj h]
  · unfold t25 at hk
    split at hk
    · rename_i T a s m
      obtain ⟨h1, h2, h3, h4⟩ := hk
      rcases h3.out with rfl | rfl
      · exact ⟨_, _, ⟨rfl, (T, a, s, false), rfl, ⟨h1.out, h2.out⟩, rfl⟩, h4⟩
      · exact ⟨_, _, ⟨rfl, (T, a, s, true), rfl, ⟨h1.out, h2.out⟩, rfl⟩, h4⟩
    · exact hk.elim
theorem s24 : SoundF P 48 (Cof S24) := SoundF.plain (follows_nil noEnv) (noEnv_sound P) mo ok24 (fun _ => rfl) (fun _ => rfl) fun n hn => ⟨head24, 0, run24 hn.1 hn.2⟩
theorem s25 : SoundF P 49 (Cof S25) := SoundF.plain (follows_nil noEnv) (noEnv_sound P) mo ok25 (fun _ => rfl) (fun _ => rfl) fun q hq => ⟨head25 q.2.1 (mask q.2.2.2) q.2.2.1, 0, by
  have := run25 q.2.2.2 hq.1 hq.2
  have e : Av q.1 q.2.1 q.2.2.1 (mask q.2.2.2) = q.1 + ws q.2.2.2 (decide (q.2.1 % 2 = 0)) q.2.2.1.data.toList := by
    unfold Av; cases q.2.2.2 <;> rfl
  rw [e]; exact this⟩
theorem s_inj : ∀ x y : ByteArray, AV.s x = AV.s y → x = y := fun _ _ h => by simpa using h
theorem i_inj : ∀ x y : Int, AV.i .i64 x = AV.i .i64 y → x = y := fun _ _ h => by simpa using h
noncomputable def G1 : Env := with1 48 (Cof S24) (with1 49 (Cof S25) noEnv)
theorem G1_s : Sound P G1 := with1_sound ok24.ok s24 (with1_sound ok25.ok s25 (noEnv_sound P))
theorem G1_f : Follows (tcons 48 (t24 F) (tcons 49 (t25 Av) tnil)) G1 := follows_cons f24_f (follows_cons f25_f (follows_nil _))
abbrev S13 : Rel := Slist .s okL fun l => .i .i64 (Ov l)
theorem s13 : SoundF P 40 (Cof S13) := SoundF.list G1_f G1_s mo ok13 (fun _ => rfl) (fun _ => rfl) (fun _ => ⟨_, 0, run13n⟩) fun off len cap c l h1 h2 h3 => ⟨_, 0, run13 h1 h2 h3⟩
noncomputable def G2 : Env := with1 40 (Cof S13) noEnv
theorem G2_s : Sound P G2 := with1_sound ok13.ok s13 (noEnv_sound P)
theorem G2_f : Follows (tcons 40 (tlist .s okL fun l => .i .i64 (Ov l)) tnil) G2 := follows_cons (tlist_follows s_inj) (follows_nil _)
abbrev S15 : Rel := Slist .s okL fun l => .bo (Rv l)
theorem s15 : SoundF P 43 (Cof S15) := SoundF.list G2_f G2_s mo ok15 (fun _ => rfl) (fun _ => rfl) (fun _ => ⟨_, 0, run15n⟩) fun off len cap c l h1 h2 h3 => ⟨_, 0, run15 h1 h2 h3⟩
abbrev Sstr (ok : ByteArray → Prop) (r : ByteArray → AV) : Rel := Splain (fun s : ByteArray => [.s s]) ok r
theorem tstr_f {ok : ByteArray → Prop} {r : ByteArray → AV} : FollowsF (tstr ok r) (Cof (Sstr ok r)) := by
  refine follows_of (Splain.det fun x y h => by simpa using h) fun args h K hk => ?_
  unfold tstr at hk
  split at hk
  · exact ⟨_, _, ⟨rfl, _, rfl, hk.1.out, rfl⟩, hk.2⟩
  · exact hk.elim
abbrev S26 : Rel := Slist (.i .i64) okI fun l => .i .i64 (F (isum l))
theorem s26 : SoundF P 50 (Cof S26) := SoundF.list (follows_nil noEnv) (noEnv_sound P) mo ok26 (fun _ => rfl) (fun _ => rfl) (fun _ => ⟨_, 0, run26n⟩) fun off len cap c l h1 h2 h3 => ⟨_, 0, run26 h1 h2 h3⟩
def S27 : Rel := Smake (fun s : ByteArray => [.s s]) (fun s => s.size ≤ 1073741824) (fun n : Int => .i .i64 n) Wv
theorem f27_f : FollowsF (t27 Wv) (Cof S27) := by
  refine follows_of (Smake.det fun x y h => by simpa using h) fun args h K hk => ?_
  unfold t27 at hk
  split at hk
  · rename_i s
    obtain ⟨h1, h2, h3⟩ := hk
    by_cases c : Wv s = []
    · exact ⟨_, _, ⟨s, rfl, h1.out, .inl ⟨c, rfl, rfl⟩⟩, h2 ⟨c⟩⟩
    · exact ⟨_, _, ⟨s, rfl, h1.out, .inr ⟨c, rfl, rfl⟩⟩, h3 ⟨c⟩⟩
  · exact hk.elim
theorem s27 : SoundF P 46 (Cof S27) := SoundF.make (follows_nil noEnv) (noEnv_sound P) mo ok27 (fun _ => rfl) (fun _ => rfl) fun s hs R h0 h1 => ⟨_, run27 hs h0 h1⟩
noncomputable def G4 : Env := with1 46 (Cof S27) (with1 50 (Cof S26) noEnv)
theorem G4_s : Sound P G4 := with1_sound ok27.ok s27 (with1_sound ok26.ok s26 (noEnv_sound P))
theorem G4_f : Follows (tcons 46 (t27 Wv) (tcons 50 (tlist (.i .i64) okI fun l => .i .i64 (F (isum l))) tnil)) G4 := follows_cons f27_f (follows_cons (tlist_follows i_inj) (follows_nil _))
theorem s14 : SoundF P 41 (Cof (Sstr smallS fun s => .i .i64 (Qv s))) := SoundF.plain G4_f G4_s mo ok14 (fun _ => rfl) (fun _ => rfl) fun s hs => ⟨_, 0, run14 hs⟩
end Go.Proofs.Ythlehnnmkadigaa.SumRun
