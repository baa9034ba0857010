/- The helpers of the laws on sums, and the laws: the conditions, computed; and that they hold. -/
import Derived.Test.YtjekkpnmpcpgaaaSumRun
set_option linter.unusedVariables false
set_option linter.unusedSimpArgs false
open Go Go.Proofs.Ytjekkpnmpcpgaaa.Eng Go.RowKit Go.Proofs.Ytjekkpnmpcpgaaa.SumMath
namespace Go.Proofs.Ytjekkpnmpcpgaaa.SumRun
def rngW (n : Int) : Prop := 0 ≤ n ∧ n ≤ 65535
def smallS (s : ByteArray) : Prop := s.size ≤ 1073741824
/-- two -/
def t16 (Tv : Int → ByteArray) (args : List AV) (h : Hp) (K : AV → Hp → Prop) : Prop := match args with
  | [.i .i64 n] => Holds (rngW n) ∧ K (.s (Tv n)) h
  | _ => False
/-- Update -/
def t18 (Uv : Int → ByteArray → ByteArray → Int) (args : List AV) (h : Hp) (K : AV → Hp → Prop) : Prop := match args with
  | [.i .i64 n, .s a, .s b] => Holds (smallS a) ∧ Holds (smallS b) ∧ K (.i .i64 (Uv n a b)) h
  | _ => False
def head17 (s : ByteArray) : Nat → Option Head := fun r => match r with
  | 2 => some (Head.one (Get.int 3) fun q => ⟨[.s s, .bad, .bad, .i .i64 q] ++ bads 10, []⟩)
  | _ => none
def head3 (v : AV) (h : Hp) : Nat → Option Head := fun r => match r with
  | 6 => some (Head.one (Get.and (Get.int 3) (Get.int 5)) fun q => ⟨[v, .bad, .bad, .i .i64 q.1, .s ⟨#[]⟩, .i .i64 q.2] ++ bads 53, h⟩)
  | 12 => some (Head.one (Get.and (Get.str 4) (Get.int 6)) fun q => ⟨[v, .bad, .bad, .bad, .s q.1, .bad, .i .i64 q.2] ++ bads 52, h⟩)
  | _ => none
def head5 : Nat → Option Head := fun r => match r with
  | 1010 => some (Head.one (Get.and (Get.str 0) (Get.and (Get.str 1) (Get.int 5))) fun q => ⟨[.s q.1, .s q.2.1, .bad, .bad, .bad, .i .i64 q.2.2] ++ bads 78, []⟩)
  | _ => none
def head7 : Nat → Option Head := fun r => match r with
  | 8 => some (Head.one (Get.and (Get.str 0) (Get.and (Get.str 1) (Get.and (Get.str 2) (Get.and (Get.str 3) (Get.str 4))))) fun q => ⟨[.s q.1, .s q.2.1, .s q.2.2.1, .s q.2.2.2.1, .s q.2.2.2.2] ++ bads 116, []⟩)
  | 1014 => some (Head.one (Get.and (Get.str 0) (Get.and (Get.str 1) (Get.and (Get.str 2) (Get.and (Get.str 3) (Get.and (Get.str 4) (Get.int 11)))))) fun q => ⟨[.s q.1, .s q.2.1, .s q.2.2.1, .s q.2.2.2.1, .s q.2.2.2.2.1] ++ bads 6 ++ [.i .i64 q.2.2.2.2.2] ++ bads 109, []⟩)
  | _ => none
def head8 : Nat → Option Head := fun r => match r with
  | 6 => some (Head.one (Get.and (Get.str 0) (Get.and (Get.str 1) (Get.str 2))) fun q => ⟨[.s q.1, .s q.2.1, .s q.2.2] ++ bads 72, []⟩)
  | _ => none
abbrev TL (Ov : List ByteArray → Int) (Rv : List ByteArray → Bool) (Zv : ByteArray → Bool) (Tv : Int → ByteArray) (Uv : Int → ByteArray → ByteArray → Int) (Wv : ByteArray → Int) : TEnv :=
  tcons 12 (tconst (.bo true)) (tcons 13 (tlist .s okL fun l => .i .i64 (Ov l)) (tcons 15 (tlist .s okL fun l => .bo (Rv l)) (tcons 17 (tstr smallS fun s => .bo (Zv s)) (tcons 16 (t16 Tv) (tcons 18 (t18 Uv) (tcons 14 (tstr smallS fun s => .i .i64 (Wv s)) tnil))))))
theorem vc16 (n : Int) (R : AV → Hp → Prop) : (wpFn P tnil noW noL 0 Go.Proofs.Try.f16 [.i .i64 n] [] R) = (Holds (2 ≤ List.length [AV.i IntKind.u8 (IntKind.wrap IntKind.u8 (Int.fdiv n (2 ^ min (Int.toNat 8) (IntKind.bits IntKind.i64)))), AV.i IntKind.u8 (IntKind.wrap IntKind.u8 n)]) ∧ ∃ (l : List Int), Holds (numsOf [AV.i IntKind.u8 (IntKind.wrap IntKind.u8 (Int.fdiv n (2 ^ min (Int.toNat 8) (IntKind.bits IntKind.i64)))), AV.i IntKind.u8 (IntKind.wrap IntKind.u8 n)] = some l) ∧ R (AV.s (textOf l)) [Blk.cells [AV.i IntKind.u8 (IntKind.wrap IntKind.u8 (Int.fdiv n (2 ^ min (Int.toNat 8) (IntKind.bits IntKind.i64)))), AV.i IntKind.u8 (IntKind.wrap IntKind.u8 n)] true]) := by kernel_rfl
theorem vc17 (s : ByteArray) (R : AV → Hp → Prop) : (wpFn P tnil noW (head17 s) 0 Go.Proofs.Try.f17 [.s s] [] R) = (Wk 0 { t := [AV.s s, .bad, .bad, AV.i IntKind.i64 0, .bad, .bad, .bad, .bad, .bad, .bad, .bad, .bad, .bad, .bad], h := [] } { t := [AV.s s, .bad, .bad, AV.i IntKind.i64 0, .bad, .bad, .bad, .bad, .bad, .bad, .bad, .bad, .bad, .bad], h := [] } ∧ ∃ (I : Nat → Int → Prop), ∃ (n : Nat), I n 0 ∧ ∀ (a : Int) (n : Nat), I n a → br (decide (a < (↑(ByteArray.size s) : Int))) (Holds (0 ≤ a) ∧ ∃ (b : UInt8), Holds (s[Int.toNat a]? = some b) ∧ br ((↑(UInt8.toNat b) : Int) != 0) (R (AV.bo false) []) (Wk 0 { t := [AV.s s, .bad, .bad, AV.i IntKind.i64 (IntKind.wrap IntKind.i64 (a + 1)), .bad, .bad, .bad, .bad, .bad, .bad, .bad, .bad, .bad, .bad], h := [] } { t := [AV.s s, .bad, .bad, AV.i IntKind.i64 (IntKind.wrap IntKind.i64 (a + 1)), .bad, .bad, .bad, .bad, .bad, .bad, .bad, .bad, .bad, .bad], h := [] } ∧ ∃ (m : Nat), Holds (m < n) ∧ I m (IntKind.wrap IntKind.i64 (a + 1)))) (R (AV.bo true) [])) := by kernel_rfl
theorem vc28 (s : ByteArray) (R : AV → Hp → Prop) : (wpFn P tnil noW noL 0 Go.Proofs.Try.f28 [.s s] [] R) = (br (Int.tmod (↑(ByteArray.size s) : Int) 2 == 1) (Holds (ByteArray.size s + 1 ≤ 9223372036854775807) ∧ R (AV.s (s ++ { data := #[0] })) []) (R (AV.s s) [])) := by kernel_rfl
theorem vc18 (Ev : ByteArray → ByteArray) (Fv : Int → Int) (Av : Int → Int → ByteArray → Int → Int) (n : Int) (a b : ByteArray) (R : AV → Hp → Prop) : (wpFn P (tcons 24 (t24 Fv) (tcons 25 (t25 Av) (tcons 28 (tstr smallS fun s => .s (Ev s)) tnil))) noW noL 0 Go.Proofs.Try.f18 [.i .i64 n, .s a, .s b] [] R) = (Holds (smallS a) ∧ Holds (okT (IntKind.wrap IntKind.i64 (65535 - bits BinOp.and IntKind.i64 n 65535)) (ByteArray.size (Ev a))) ∧ Holds (okA 0 (ByteArray.size (Ev a))) ∧ Holds (okM 255) ∧ Holds (0 ≤ Av (IntKind.wrap IntKind.i64 (65535 - bits BinOp.and IntKind.i64 n 65535)) 0 (Ev a) 255 ∧ Av (IntKind.wrap IntKind.i64 (65535 - bits BinOp.and IntKind.i64 n 65535)) 0 (Ev a) 255 ≤ 4611686018427387904) ∧ Holds (okT (Fv (Av (IntKind.wrap IntKind.i64 (65535 - bits BinOp.and IntKind.i64 n 65535)) 0 (Ev a) 255)) (ByteArray.size b)) ∧ Holds (okA 0 (ByteArray.size b)) ∧ Holds (okM 0) ∧ Holds (0 ≤ Av (Fv (Av (IntKind.wrap IntKind.i64 (65535 - bits BinOp.and IntKind.i64 n 65535)) 0 (Ev a) 255)) 0 b 0 ∧ Av (Fv (Av (IntKind.wrap IntKind.i64 (65535 - bits BinOp.and IntKind.i64 n 65535)) 0 (Ev a) 255)) 0 b 0 ≤ 4611686018427387904) ∧ R (AV.i IntKind.i64 (IntKind.wrap IntKind.i64 (65535 - Fv (Av (Fv (Av (IntKind.wrap IntKind.i64 (65535 - bits BinOp.and IntKind.i64 n 65535)) 0 (Ev a) 255)) 0 b 0)))) []) := by kernel_rfl
theorem vc3 (Ov : List ByteArray → Int) (Rv : List ByteArray → Bool) (Zv : ByteArray → Bool) (Tv : Int → ByteArray) (Uv : Int → ByteArray → ByteArray → Int) (Wv : ByteArray → Int) (off len : Nat) (cap : Option Nat) (c : List AV) (R : AV → Hp → Prop) : (wpFn P (TL Ov Rv Zv Tv Uv Wv) noW (head3 (.sl 0 off len 1 cap) [.cells c false]) 0 Go.Proofs.Try.f3 [.sl 0 off len 1 cap] [.cells c false] R) = (Wk 0 { t := [AV.sl 0 off len 1 cap, .bad, .bad, AV.i IntKind.i64 0, AV.s { data := #[] }, AV.i IntKind.i64 0, .bad, .bad, .bad, .bad, .bad, .bad, .bad, .bad, .bad, .bad, .bad, .bad, .bad, .bad, .bad, .bad, .bad, .bad, .bad, .bad, .bad, .bad, .bad, .bad, .bad, .bad, .bad, .bad, .bad, .bad, .bad, .bad, .bad, .bad, .bad, .bad, .bad, .bad, .bad, .bad, .bad, .bad, .bad, .bad, .bad, .bad, .bad, .bad, .bad, .bad, .bad, .bad, .bad], h := [Blk.cells c false] } { t := [AV.sl 0 off len 1 cap, .bad, .bad, AV.i IntKind.i64 0, AV.s { data := #[] }, AV.i IntKind.i64 0, .bad, .bad, .bad, .bad, .bad, .bad, .bad, .bad, .bad, .bad, .bad, .bad, .bad, .bad, .bad, .bad, .bad, .bad, .bad, .bad, .bad, .bad, .bad, .bad, .bad, .bad, .bad, .bad, .bad, .bad, .bad, .bad, .bad, .bad, .bad, .bad, .bad, .bad, .bad, .bad, .bad, .bad, .bad, .bad, .bad, .bad, .bad, .bad, .bad, .bad, .bad, .bad, .bad], h := [Blk.cells c false] } ∧ ∃ (I : Nat → Int × Int → Prop), ∃ (n : Nat), I n (0, 0) ∧ ∀ (a : Int × Int) (n : Nat), I n a → br (decide (Prod.snd a < (↑len : Int))) (br (decide (Prod.snd a ≤ 20)) (Holds (0 ≤ Prod.snd a ∧ Prod.snd a < (↑len : Int)) ∧ ∃ (s : ByteArray), Holds (c[off + Int.toNat (Prod.snd a) * 1]? = some (AV.s s)) ∧ Wk 0 { t := [AV.sl 0 off len 1 cap, .bad, .bad, AV.i IntKind.i64 (IntKind.wrap IntKind.i64 (Prod.fst a + if 70001 < (↑(ByteArray.size s) : Int) then 70001 else (↑(ByteArray.size s) : Int))), AV.s { data := #[] }, AV.i IntKind.i64 (IntKind.wrap IntKind.i64 (Prod.snd a + 1)), .bad, .bad, .bad, .bad, .bad, .bad, .bad, .bad, .bad, .bad, .bad, .bad, .bad, .bad, .bad, .bad, .bad, .bad, .bad, .bad, .bad, .bad, .bad, .bad, .bad, .bad, .bad, .bad, .bad, .bad, .bad, .bad, .bad, .bad, .bad, .bad, .bad, .bad, .bad, .bad, .bad, .bad, .bad, .bad, .bad, .bad, .bad, .bad, .bad, .bad, .bad, .bad, .bad], h := [Blk.cells c false] } { t := [AV.sl 0 off len 1 cap, .bad, .bad, AV.i IntKind.i64 (IntKind.wrap IntKind.i64 (Prod.fst a + if 70001 < (↑(ByteArray.size s) : Int) then 70001 else (↑(ByteArray.size s) : Int))), AV.s { data := #[] }, AV.i IntKind.i64 (IntKind.wrap IntKind.i64 (Prod.snd a + 1)), .bad, .bad, .bad, .bad, .bad, .bad, .bad, .bad, .bad, .bad, .bad, .bad, .bad, .bad, .bad, .bad, .bad, .bad, .bad, .bad, .bad, .bad, .bad, .bad, .bad, .bad, .bad, .bad, .bad, .bad, .bad, .bad, .bad, .bad, .bad, .bad, .bad, .bad, .bad, .bad, .bad, .bad, .bad, .bad, .bad, .bad, .bad, .bad, .bad, .bad, .bad, .bad, .bad], h := [Blk.cells c false] } ∧ ∃ (m : Nat), Holds (m < n) ∧ I m (IntKind.wrap IntKind.i64 (Prod.fst a + if 70001 < (↑(ByteArray.size s) : Int) then 70001 else (↑(ByteArray.size s) : Int)), IntKind.wrap IntKind.i64 (Prod.snd a + 1))) (br (decide ((↑len : Int) > 20)) (R (AV.bo true) [Blk.cells c false]) (br (decide (Prod.fst a > 70000)) (R (AV.bo true) [Blk.cells c false]) (Wk 0 { t := [AV.sl 0 off len 1 cap, .bad, .bad, .bad, AV.s { data := #[] }, .bad, AV.i IntKind.i64 0, .bad, .bad, .bad, .bad, .bad, .bad, .bad, .bad, .bad, .bad, .bad, .bad, .bad, .bad, .bad, .bad, .bad, .bad, .bad, .bad, .bad, .bad, .bad, .bad, .bad, .bad, .bad, .bad, .bad, .bad, .bad, .bad, .bad, .bad, .bad, .bad, .bad, .bad, .bad, .bad, .bad, .bad, .bad, .bad, .bad, .bad, .bad, .bad, .bad, .bad, .bad, .bad], h := [Blk.cells c false] } { t := [AV.sl 0 off len 1 cap, .bad, .bad, .bad, AV.s { data := #[] }, .bad, AV.i IntKind.i64 0, .bad, .bad, .bad, .bad, .bad, .bad, .bad, .bad, .bad, .bad, .bad, .bad, .bad, .bad, .bad, .bad, .bad, .bad, .bad, .bad, .bad, .bad, .bad, .bad, .bad, .bad, .bad, .bad, .bad, .bad, .bad, .bad, .bad, .bad, .bad, .bad, .bad, .bad, .bad, .bad, .bad, .bad, .bad, .bad, .bad, .bad, .bad, .bad, .bad, .bad, .bad, .bad], h := [Blk.cells c false] } ∧ ∃ (I : Nat → ByteArray × Int → Prop), ∃ (n : Nat), I n ({ data := #[] }, 0) ∧ ∀ (a : ByteArray × Int) (n : Nat), I n a → br (decide (Prod.snd a < (↑len : Int))) (Holds (0 ≤ Prod.snd a ∧ Prod.snd a < (↑len : Int)) ∧ ∃ (s : ByteArray), Holds (c[off + Int.toNat (Prod.snd a) * 1]? = some (AV.s s)) ∧ Holds (ByteArray.size (Prod.fst a) + ByteArray.size s ≤ 9223372036854775807) ∧ Wk 0 { t := [AV.sl 0 off len 1 cap, .bad, .bad, .bad, AV.s (Prod.fst a ++ s), .bad, AV.i IntKind.i64 (IntKind.wrap IntKind.i64 (Prod.snd a + 1)), .bad, .bad, .bad, .bad, .bad, .bad, .bad, .bad, .bad, .bad, .bad, .bad, .bad, .bad, .bad, .bad, .bad, .bad, .bad, .bad, .bad, .bad, .bad, .bad, .bad, .bad, .bad, .bad, .bad, .bad, .bad, .bad, .bad, .bad, .bad, .bad, .bad, .bad, .bad, .bad, .bad, .bad, .bad, .bad, .bad, .bad, .bad, .bad, .bad, .bad, .bad, .bad], h := [Blk.cells c false] } { t := [AV.sl 0 off len 1 cap, .bad, .bad, .bad, AV.s (Prod.fst a ++ s), .bad, AV.i IntKind.i64 (IntKind.wrap IntKind.i64 (Prod.snd a + 1)), .bad, .bad, .bad, .bad, .bad, .bad, .bad, .bad, .bad, .bad, .bad, .bad, .bad, .bad, .bad, .bad, .bad, .bad, .bad, .bad, .bad, .bad, .bad, .bad, .bad, .bad, .bad, .bad, .bad, .bad, .bad, .bad, .bad, .bad, .bad, .bad, .bad, .bad, .bad, .bad, .bad, .bad, .bad, .bad, .bad, .bad, .bad, .bad, .bad, .bad, .bad, .bad], h := [Blk.cells c false] } ∧ ∃ (m : Nat), Holds (m < n) ∧ I m (Prod.fst a ++ s, IntKind.wrap IntKind.i64 (Prod.snd a + 1))) (∃ (l : List ByteArray), Holds (List.take len (List.drop off c) = List.map AV.s l) ∧ Holds (List.length l = len) ∧ Holds (okL l) ∧ Holds (smallS (Prod.fst a)) ∧ br (Ov l == Wv (Prod.fst a)) (∃ (l : List ByteArray), Holds (List.take len (List.drop off c) = List.map AV.s l) ∧ Holds (List.length l = len) ∧ Holds (okL l) ∧ Holds (smallS (Prod.fst a)) ∧ R (AV.bo (Rv l == (Wv (Prod.fst a) == 0))) [Blk.cells c false]) (R (AV.bo false) [Blk.cells c false])))))) (br (decide ((↑len : Int) > 20)) (R (AV.bo true) [Blk.cells c false]) (br (decide (Prod.fst a > 70000)) (R (AV.bo true) [Blk.cells c false]) (Wk 0 { t := [AV.sl 0 off len 1 cap, .bad, .bad, .bad, AV.s { data := #[] }, .bad, AV.i IntKind.i64 0, .bad, .bad, .bad, .bad, .bad, .bad, .bad, .bad, .bad, .bad, .bad, .bad, .bad, .bad, .bad, .bad, .bad, .bad, .bad, .bad, .bad, .bad, .bad, .bad, .bad, .bad, .bad, .bad, .bad, .bad, .bad, .bad, .bad, .bad, .bad, .bad, .bad, .bad, .bad, .bad, .bad, .bad, .bad, .bad, .bad, .bad, .bad, .bad, .bad, .bad, .bad, .bad], h := [Blk.cells c false] } { t := [AV.sl 0 off len 1 cap, .bad, .bad, .bad, AV.s { data := #[] }, .bad, AV.i IntKind.i64 0, .bad, .bad, .bad, .bad, .bad, .bad, .bad, .bad, .bad, .bad, .bad, .bad, .bad, .bad, .bad, .bad, .bad, .bad, .bad, .bad, .bad, .bad, .bad, .bad, .bad, .bad, .bad, .bad, .bad, .bad, .bad, .bad, .bad, .bad, .bad, .bad, .bad, .bad, .bad, .bad, .bad, .bad, .bad, .bad, .bad, .bad, .bad, .bad, .bad, .bad, .bad, .bad], h := [Blk.cells c false] } ∧ ∃ (I : Nat → ByteArray × Int → Prop), ∃ (n : Nat), I n ({ data := #[] }, 0) ∧ ∀ (a : ByteArray × Int) (n : Nat), I n a → br (decide (Prod.snd a < (↑len : Int))) (Holds (0 ≤ Prod.snd a ∧ Prod.snd a < (↑len : Int)) ∧ ∃ (s : ByteArray), Holds (c[off + Int.toNat (Prod.snd a) * 1]? = some (AV.s s)) ∧ Holds (ByteArray.size (Prod.fst a) + ByteArray.size s ≤ 9223372036854775807) ∧ Wk 0 { t := [AV.sl 0 off len 1 cap, .bad, .bad, .bad, AV.s (Prod.fst a ++ s), .bad, AV.i IntKind.i64 (IntKind.wrap IntKind.i64 (Prod.snd a + 1)), .bad, .bad, .bad, .bad, .bad, .bad, .bad, .bad, .bad, .bad, .bad, .bad, .bad, .bad, .bad, .bad, .bad, .bad, .bad, .bad, .bad, .bad, .bad, .bad, .bad, .bad, .bad, .bad, .bad, .bad, .bad, .bad, .bad, .bad, .bad, .bad, .bad, .bad, .bad, .bad, .bad, .bad, .bad, .bad, .bad, .bad, .bad, .bad, .bad, .bad, .bad, .bad], h := [Blk.cells c false] } { t := [AV.sl 0 off len 1 cap, .bad, .bad, .bad, AV.s (Prod.fst a ++ s), .bad, AV.i IntKind.i64 (IntKind.wrap IntKind.i64 (Prod.snd a + 1)), .bad, .bad, .bad, .bad, .bad, .bad, .bad, .bad, .bad, .bad, .bad, .bad, .bad, .bad, .bad, .bad, .bad, .bad, .bad, .bad, .bad, .bad, .bad, .bad, .bad, .bad, .bad, .bad, .bad, .bad, .bad, .bad, .bad, .bad, .bad, .bad, .bad, .bad, .bad, .bad, .bad, .bad, .bad, .bad, .bad, .bad, .bad, .bad, .bad, .bad, .bad, .bad], h := [Blk.cells c false] } ∧ ∃ (m : Nat), Holds (m < n) ∧ I m (Prod.fst a ++ s, IntKind.wrap IntKind.i64 (Prod.snd a + 1))) (∃ (l : List ByteArray), Holds (List.take len (List.drop off c) = List.map AV.s l) ∧ Holds (List.length l = len) ∧ Holds (okL l) ∧ Holds (smallS (Prod.fst a)) ∧ br (Ov l == Wv (Prod.fst a)) (∃ (l : List ByteArray), Holds (List.take len (List.drop off c) = List.map AV.s l) ∧ Holds (List.length l = len) ∧ Holds (okL l) ∧ Holds (smallS (Prod.fst a)) ∧ R (AV.bo (Rv l == (Wv (Prod.fst a) == 0))) [Blk.cells c false]) (R (AV.bo false) [Blk.cells c false])))))) := by kernel_rfl
theorem vc3n (Ov : List ByteArray → Int) (Rv : List ByteArray → Bool) (Zv : ByteArray → Bool) (Tv : Int → ByteArray) (Uv : Int → ByteArray → ByteArray → Int) (Wv : ByteArray → Int) (R : AV → Hp → Prop) : (wpFn P (TL Ov Rv Zv Tv Uv Wv) noW (head3 .sn []) 0 Go.Proofs.Try.f3 [.sn] [] R) = (Wk 0 { t := [AV.sn, .bad, .bad, AV.i IntKind.i64 0, AV.s { data := #[] }, AV.i IntKind.i64 0, .bad, .bad, .bad, .bad, .bad, .bad, .bad, .bad, .bad, .bad, .bad, .bad, .bad, .bad, .bad, .bad, .bad, .bad, .bad, .bad, .bad, .bad, .bad, .bad, .bad, .bad, .bad, .bad, .bad, .bad, .bad, .bad, .bad, .bad, .bad, .bad, .bad, .bad, .bad, .bad, .bad, .bad, .bad, .bad, .bad, .bad, .bad, .bad, .bad, .bad, .bad, .bad, .bad], h := [] } { t := [AV.sn, .bad, .bad, AV.i IntKind.i64 0, AV.s { data := #[] }, AV.i IntKind.i64 0, .bad, .bad, .bad, .bad, .bad, .bad, .bad, .bad, .bad, .bad, .bad, .bad, .bad, .bad, .bad, .bad, .bad, .bad, .bad, .bad, .bad, .bad, .bad, .bad, .bad, .bad, .bad, .bad, .bad, .bad, .bad, .bad, .bad, .bad, .bad, .bad, .bad, .bad, .bad, .bad, .bad, .bad, .bad, .bad, .bad, .bad, .bad, .bad, .bad, .bad, .bad, .bad, .bad], h := [] } ∧ ∃ (I : Nat → Int × Int → Prop), ∃ (n : Nat), I n (0, 0) ∧ ∀ (a : Int × Int) (n : Nat), I n a → br (decide (Prod.snd a < 0)) (br (decide (Prod.snd a ≤ 20)) False (br (decide (Prod.fst a > 70000)) (R (AV.bo true) []) (Wk 0 { t := [AV.sn, .bad, .bad, .bad, AV.s { data := #[] }, .bad, AV.i IntKind.i64 0, .bad, .bad, .bad, .bad, .bad, .bad, .bad, .bad, .bad, .bad, .bad, .bad, .bad, .bad, .bad, .bad, .bad, .bad, .bad, .bad, .bad, .bad, .bad, .bad, .bad, .bad, .bad, .bad, .bad, .bad, .bad, .bad, .bad, .bad, .bad, .bad, .bad, .bad, .bad, .bad, .bad, .bad, .bad, .bad, .bad, .bad, .bad, .bad, .bad, .bad, .bad, .bad], h := [] } { t := [AV.sn, .bad, .bad, .bad, AV.s { data := #[] }, .bad, AV.i IntKind.i64 0, .bad, .bad, .bad, .bad, .bad, .bad, .bad, .bad, .bad, .bad, .bad, .bad, .bad, .bad, .bad, .bad, .bad, .bad, .bad, .bad, .bad, .bad, .bad, .bad, .bad, .bad, .bad, .bad, .bad, .bad, .bad, .bad, .bad, .bad, .bad, .bad, .bad, .bad, .bad, .bad, .bad, .bad, .bad, .bad, .bad, .bad, .bad, .bad, .bad, .bad, .bad, .bad], h := [] } ∧ ∃ (I : Nat → ByteArray × Int → Prop), ∃ (n : Nat), I n ({ data := #[] }, 0) ∧ ∀ (a : ByteArray × Int) (n : Nat), I n a → br (decide (Prod.snd a < 0)) False (Holds (okL []) ∧ Holds (smallS (Prod.fst a)) ∧ br (Ov [] == Wv (Prod.fst a)) (Holds (okL []) ∧ Holds (smallS (Prod.fst a)) ∧ R (AV.bo (Rv [] == (Wv (Prod.fst a) == 0))) []) (R (AV.bo false) []))))) (br (decide (Prod.fst a > 70000)) (R (AV.bo true) []) (Wk 0 { t := [AV.sn, .bad, .bad, .bad, AV.s { data := #[] }, .bad, AV.i IntKind.i64 0, .bad, .bad, .bad, .bad, .bad, .bad, .bad, .bad, .bad, .bad, .bad, .bad, .bad, .bad, .bad, .bad, .bad, .bad, .bad, .bad, .bad, .bad, .bad, .bad, .bad, .bad, .bad, .bad, .bad, .bad, .bad, .bad, .bad, .bad, .bad, .bad, .bad, .bad, .bad, .bad, .bad, .bad, .bad, .bad, .bad, .bad, .bad, .bad, .bad, .bad, .bad, .bad], h := [] } { t := [AV.sn, .bad, .bad, .bad, AV.s { data := #[] }, .bad, AV.i IntKind.i64 0, .bad, .bad, .bad, .bad, .bad, .bad, .bad, .bad, .bad, .bad, .bad, .bad, .bad, .bad, .bad, .bad, .bad, .bad, .bad, .bad, .bad, .bad, .bad, .bad, .bad, .bad, .bad, .bad, .bad, .bad, .bad, .bad, .bad, .bad, .bad, .bad, .bad, .bad, .bad, .bad, .bad, .bad, .bad, .bad, .bad, .bad, .bad, .bad, .bad, .bad, .bad, .bad], h := [] } ∧ ∃ (I : Nat → ByteArray × Int → Prop), ∃ (n : Nat), I n ({ data := #[] }, 0) ∧ ∀ (a : ByteArray × Int) (n : Nat), I n a → br (decide (Prod.snd a < 0)) False (Holds (okL []) ∧ Holds (smallS (Prod.fst a)) ∧ br (Ov [] == Wv (Prod.fst a)) (Holds (okL []) ∧ Holds (smallS (Prod.fst a)) ∧ R (AV.bo (Rv [] == (Wv (Prod.fst a) == 0))) []) (R (AV.bo false) []))))) := by kernel_rfl
theorem vc5 (Ov : List ByteArray → Int) (Rv : List ByteArray → Bool) (Zv : ByteArray → Bool) (Tv : Int → ByteArray) (Uv : Int → ByteArray → ByteArray → Int) (Wv : ByteArray → Int) (a b : ByteArray) (R : AV → Hp → Prop) : (wpFn P (TL Ov Rv Zv Tv Uv Wv) noW head5 0 Go.Proofs.Try.f5 [.s a, .s b] [] R) = (br (decide ((↑(ByteArray.size a) : Int) > 3000)) (R (AV.bo true) []) (br (decide ((↑(ByteArray.size b) : Int) > 3000)) (R (AV.bo true) []) (Holds (0 ≤ IntKind.wrap IntKind.i64 (IntKind.wrap IntKind.i64 (Int.tdiv (↑(ByteArray.size a) : Int) 2) * 2) ∧ IntKind.wrap IntKind.i64 (IntKind.wrap IntKind.i64 (Int.tdiv (↑(ByteArray.size a) : Int) 2) * 2) ≤ (↑(ByteArray.size a) : Int)) ∧ Holds (0 ≤ IntKind.wrap IntKind.i64 (IntKind.wrap IntKind.i64 (Int.tdiv (↑(ByteArray.size b) : Int) 2) * 2) ∧ IntKind.wrap IntKind.i64 (IntKind.wrap IntKind.i64 (Int.tdiv (↑(ByteArray.size b) : Int) 2) * 2) ≤ (↑(ByteArray.size b) : Int)) ∧ ∃ (l : List ByteArray), Holds ([AV.s (ByteArray.extract a 0 (Int.toNat (IntKind.wrap IntKind.i64 (IntKind.wrap IntKind.i64 (Int.tdiv (↑(ByteArray.size a) : Int) 2) * 2))))] = List.map AV.s l) ∧ Holds (List.length l = 1) ∧ Holds (okL l) ∧ ∃ (J : ByteArray × ByteArray × Int → Prop), br (decide (IntKind.wrap IntKind.i64 (2 * IntKind.wrap IntKind.i64 (65535 - Ov l)) > 65535)) (Wk 0 { t := [AV.s (ByteArray.extract a 0 (Int.toNat (IntKind.wrap IntKind.i64 (IntKind.wrap IntKind.i64 (Int.tdiv (↑(ByteArray.size a) : Int) 2) * 2)))), AV.s (ByteArray.extract b 0 (Int.toNat (IntKind.wrap IntKind.i64 (IntKind.wrap IntKind.i64 (Int.tdiv (↑(ByteArray.size b) : Int) 2) * 2)))), .bad, .bad, .bad, AV.i IntKind.i64 (IntKind.wrap IntKind.i64 (IntKind.wrap IntKind.i64 (2 * IntKind.wrap IntKind.i64 (65535 - Ov l)) - 65535)), .bad, .bad, .bad, .bad, .bad, .bad, .bad, .bad, .bad, .bad, .bad, .bad, .bad, .bad, .bad, .bad, .bad, .bad, .bad, .bad, .bad, .bad, .bad, .bad, .bad, .bad, .bad, .bad, .bad, .bad, .bad, .bad, .bad, .bad, .bad, .bad, .bad, .bad, .bad, .bad, .bad, .bad, .bad, .bad, .bad, .bad, .bad, .bad, .bad, .bad, .bad, .bad, .bad, .bad, .bad, .bad, .bad, .bad, .bad, .bad, .bad, .bad, .bad, .bad, .bad, .bad, .bad, .bad, .bad, .bad, .bad, .bad, .bad, .bad, .bad, .bad, .bad, .bad], h := [Blk.cells [AV.s (ByteArray.extract a 0 (Int.toNat (IntKind.wrap IntKind.i64 (IntKind.wrap IntKind.i64 (Int.tdiv (↑(ByteArray.size a) : Int) 2) * 2))))] true] } { t := [AV.s (ByteArray.extract a 0 (Int.toNat (IntKind.wrap IntKind.i64 (IntKind.wrap IntKind.i64 (Int.tdiv (↑(ByteArray.size a) : Int) 2) * 2)))), AV.s (ByteArray.extract b 0 (Int.toNat (IntKind.wrap IntKind.i64 (IntKind.wrap IntKind.i64 (Int.tdiv (↑(ByteArray.size b) : Int) 2) * 2)))), .bad, .bad, .bad, AV.i IntKind.i64 (IntKind.wrap IntKind.i64 (IntKind.wrap IntKind.i64 (2 * IntKind.wrap IntKind.i64 (65535 - Ov l)) - 65535)), .bad, .bad, .bad, .bad, .bad, .bad, .bad, .bad, .bad, .bad, .bad, .bad, .bad, .bad, .bad, .bad, .bad, .bad, .bad, .bad, .bad, .bad, .bad, .bad, .bad, .bad, .bad, .bad, .bad, .bad, .bad, .bad, .bad, .bad, .bad, .bad, .bad, .bad, .bad, .bad, .bad, .bad, .bad, .bad, .bad, .bad, .bad, .bad, .bad, .bad, .bad, .bad, .bad, .bad, .bad, .bad, .bad, .bad, .bad, .bad, .bad, .bad, .bad, .bad, .bad, .bad, .bad, .bad, .bad, .bad, .bad, .bad, .bad, .bad, .bad, .bad, .bad, .bad], h := [] } ∧ J (ByteArray.extract a 0 (Int.toNat (IntKind.wrap IntKind.i64 (IntKind.wrap IntKind.i64 (Int.tdiv (↑(ByteArray.size a) : Int) 2) * 2))), ByteArray.extract b 0 (Int.toNat (IntKind.wrap IntKind.i64 (IntKind.wrap IntKind.i64 (Int.tdiv (↑(ByteArray.size b) : Int) 2) * 2))), IntKind.wrap IntKind.i64 (IntKind.wrap IntKind.i64 (2 * IntKind.wrap IntKind.i64 (65535 - Ov l)) - 65535))) (Wk 0 { t := [AV.s (ByteArray.extract a 0 (Int.toNat (IntKind.wrap IntKind.i64 (IntKind.wrap IntKind.i64 (Int.tdiv (↑(ByteArray.size a) : Int) 2) * 2)))), AV.s (ByteArray.extract b 0 (Int.toNat (IntKind.wrap IntKind.i64 (IntKind.wrap IntKind.i64 (Int.tdiv (↑(ByteArray.size b) : Int) 2) * 2)))), .bad, .bad, .bad, AV.i IntKind.i64 (IntKind.wrap IntKind.i64 (2 * IntKind.wrap IntKind.i64 (65535 - Ov l))), .bad, .bad, .bad, .bad, .bad, .bad, .bad, .bad, .bad, .bad, .bad, .bad, .bad, .bad, .bad, .bad, .bad, .bad, .bad, .bad, .bad, .bad, .bad, .bad, .bad, .bad, .bad, .bad, .bad, .bad, .bad, .bad, .bad, .bad, .bad, .bad, .bad, .bad, .bad, .bad, .bad, .bad, .bad, .bad, .bad, .bad, .bad, .bad, .bad, .bad, .bad, .bad, .bad, .bad, .bad, .bad, .bad, .bad, .bad, .bad, .bad, .bad, .bad, .bad, .bad, .bad, .bad, .bad, .bad, .bad, .bad, .bad, .bad, .bad, .bad, .bad, .bad, .bad], h := [Blk.cells [AV.s (ByteArray.extract a 0 (Int.toNat (IntKind.wrap IntKind.i64 (IntKind.wrap IntKind.i64 (Int.tdiv (↑(ByteArray.size a) : Int) 2) * 2))))] true] } { t := [AV.s (ByteArray.extract a 0 (Int.toNat (IntKind.wrap IntKind.i64 (IntKind.wrap IntKind.i64 (Int.tdiv (↑(ByteArray.size a) : Int) 2) * 2)))), AV.s (ByteArray.extract b 0 (Int.toNat (IntKind.wrap IntKind.i64 (IntKind.wrap IntKind.i64 (Int.tdiv (↑(ByteArray.size b) : Int) 2) * 2)))), .bad, .bad, .bad, AV.i IntKind.i64 (IntKind.wrap IntKind.i64 (2 * IntKind.wrap IntKind.i64 (65535 - Ov l))), .bad, .bad, .bad, .bad, .bad, .bad, .bad, .bad, .bad, .bad, .bad, .bad, .bad, .bad, .bad, .bad, .bad, .bad, .bad, .bad, .bad, .bad, .bad, .bad, .bad, .bad, .bad, .bad, .bad, .bad, .bad, .bad, .bad, .bad, .bad, .bad, .bad, .bad, .bad, .bad, .bad, .bad, .bad, .bad, .bad, .bad, .bad, .bad, .bad, .bad, .bad, .bad, .bad, .bad, .bad, .bad, .bad, .bad, .bad, .bad, .bad, .bad, .bad, .bad, .bad, .bad, .bad, .bad, .bad, .bad, .bad, .bad, .bad, .bad, .bad, .bad, .bad, .bad], h := [] } ∧ J (ByteArray.extract a 0 (Int.toNat (IntKind.wrap IntKind.i64 (IntKind.wrap IntKind.i64 (Int.tdiv (↑(ByteArray.size a) : Int) 2) * 2))), ByteArray.extract b 0 (Int.toNat (IntKind.wrap IntKind.i64 (IntKind.wrap IntKind.i64 (Int.tdiv (↑(ByteArray.size b) : Int) 2) * 2))), IntKind.wrap IntKind.i64 (2 * IntKind.wrap IntKind.i64 (65535 - Ov l)))) ∧ ∀ (a : ByteArray × ByteArray × Int), J a → ∃ (l : List ByteArray), Holds ([AV.s (Prod.fst a), AV.s (Prod.fst a)] = List.map AV.s l) ∧ Holds (List.length l = 2) ∧ Holds (okL l) ∧ br (IntKind.wrap IntKind.i64 (65535 - Ov l) != Prod.snd (Prod.snd a)) (R (AV.bo false) [Blk.cells [AV.s (Prod.fst a), AV.s (Prod.fst a)] true]) (∃ (l : List ByteArray), Holds ([AV.s (Prod.fst a)] = List.map AV.s l) ∧ Holds (List.length l = 1) ∧ Holds (okL l) ∧ Holds (rngW (Ov l)) ∧ Holds (ByteArray.size (Prod.fst a) + ByteArray.size (Tv (Ov l)) ≤ 9223372036854775807) ∧ ∃ (l_1 : List ByteArray), Holds ([AV.s (Prod.fst (Prod.snd a))] = List.map AV.s l_1) ∧ Holds (List.length l_1 = 1) ∧ Holds (okL l_1) ∧ Holds (rngW (Ov l_1)) ∧ Holds (ByteArray.size (Prod.fst (Prod.snd a)) + ByteArray.size (Tv (Ov l_1)) ≤ 9223372036854775807) ∧ Holds (smallS (Prod.fst a)) ∧ br (Zv (Prod.fst a)) (R (AV.bo true) [Blk.cells [AV.s (Prod.fst a), AV.s (Prod.fst a)] true, Blk.cells [AV.s (Prod.fst a)] true, Blk.cells [AV.s (Prod.fst (Prod.snd a))] true]) (Holds (smallS (Prod.fst (Prod.snd a))) ∧ br (Zv (Prod.fst (Prod.snd a))) (R (AV.bo true) [Blk.cells [AV.s (Prod.fst a), AV.s (Prod.fst a)] true, Blk.cells [AV.s (Prod.fst a)] true, Blk.cells [AV.s (Prod.fst (Prod.snd a))] true]) (∃ (l_2 : List ByteArray), Holds ([AV.s (Prod.fst a ++ Tv (Ov l))] = List.map AV.s l_2) ∧ Holds (List.length l_2 = 1) ∧ Holds (okL l_2) ∧ br (Rv l_2) (∃ (l_3 : List ByteArray), Holds ([AV.s (Prod.fst (Prod.snd a) ++ Tv (Ov l_1))] = List.map AV.s l_3) ∧ Holds (List.length l_3 = 1) ∧ Holds (okL l_3) ∧ br (Rv l_3) (∃ (l_4 : List ByteArray), Holds ([AV.s (Prod.fst a ++ Tv (Ov l)), AV.s (Prod.fst (Prod.snd a) ++ Tv (Ov l_1))] = List.map AV.s l_4) ∧ Holds (List.length l_4 = 2) ∧ Holds (okL l_4) ∧ br (Rv l_4) (∃ (l_5 : List ByteArray), Holds ([AV.s (Prod.fst (Prod.snd a) ++ Tv (Ov l_1)), AV.s (Prod.fst a ++ Tv (Ov l))] = List.map AV.s l_5) ∧ Holds (List.length l_5 = 2) ∧ Holds (okL l_5) ∧ R (AV.bo (Rv l_5)) [Blk.cells [AV.s (Prod.fst a), AV.s (Prod.fst a)] true, Blk.cells [AV.s (Prod.fst a)] true, Blk.cells [AV.s (Prod.fst (Prod.snd a))] true, Blk.cells [AV.s (Prod.fst a ++ Tv (Ov l))] true, Blk.cells [AV.s (Prod.fst (Prod.snd a) ++ Tv (Ov l_1))] true, Blk.cells [AV.s (Prod.fst a ++ Tv (Ov l)), AV.s (Prod.fst (Prod.snd a) ++ Tv (Ov l_1))] true, Blk.cells [AV.s (Prod.fst (Prod.snd a) ++ Tv (Ov l_1)), AV.s (Prod.fst a ++ Tv (Ov l))] true]) (R (AV.bo false) [Blk.cells [AV.s (Prod.fst a), AV.s (Prod.fst a)] true, Blk.cells [AV.s (Prod.fst a)] true, Blk.cells [AV.s (Prod.fst (Prod.snd a))] true, Blk.cells [AV.s (Prod.fst a ++ Tv (Ov l))] true, Blk.cells [AV.s (Prod.fst (Prod.snd a) ++ Tv (Ov l_1))] true, Blk.cells [AV.s (Prod.fst a ++ Tv (Ov l)), AV.s (Prod.fst (Prod.snd a) ++ Tv (Ov l_1))] true])) (R (AV.bo false) [Blk.cells [AV.s (Prod.fst a), AV.s (Prod.fst a)] true, Blk.cells [AV.s (Prod.fst a)] true, Blk.cells [AV.s (Prod.fst (Prod.snd a))] true, Blk.cells [AV.s (Prod.fst a ++ Tv (Ov l))] true, Blk.cells [AV.s (Prod.fst (Prod.snd a) ++ Tv (Ov l_1))] true])) (R (AV.bo false) [Blk.cells [AV.s (Prod.fst a), AV.s (Prod.fst a)] true, Blk.cells [AV.s (Prod.fst a)] true, Blk.cells [AV.s (Prod.fst (Prod.snd a))] true, Blk.cells [AV.s (Prod.fst a ++ Tv (Ov l))] true]))))))) := by kernel_rfl
theorem vc7 (Ov : List ByteArray → Int) (Rv : List ByteArray → Bool) (Zv : ByteArray → Bool) (Tv : Int → ByteArray) (Uv : Int → ByteArray → ByteArray → Int) (Wv : ByteArray → Int) (a b c d e : ByteArray) (R : AV → Hp → Prop) : (wpFn P (TL Ov Rv Zv Tv Uv Wv) noW head7 0 Go.Proofs.Try.f7 [.s a, .s b, .s c, .s d, .s e] [] R) = (br (decide ((↑(ByteArray.size a) : Int) > 2000)) (R (AV.bo true) []) (br (decide ((↑(ByteArray.size b) : Int) > 2000)) (R (AV.bo true) []) (br (decide ((↑(ByteArray.size c) : Int) > 2000)) (R (AV.bo true) []) (br (decide ((↑(ByteArray.size d) : Int) > 2000)) (R (AV.bo true) []) (br (decide ((↑(ByteArray.size e) : Int) > 2000)) (R (AV.bo true) []) (Holds (0 ≤ IntKind.wrap IntKind.i64 (IntKind.wrap IntKind.i64 (Int.tdiv (↑(ByteArray.size a) : Int) 2) * 2) ∧ IntKind.wrap IntKind.i64 (IntKind.wrap IntKind.i64 (Int.tdiv (↑(ByteArray.size a) : Int) 2) * 2) ≤ (↑(ByteArray.size a) : Int)) ∧ Holds (0 ≤ IntKind.wrap IntKind.i64 (IntKind.wrap IntKind.i64 (Int.tdiv (↑(ByteArray.size b) : Int) 2) * 2) ∧ IntKind.wrap IntKind.i64 (IntKind.wrap IntKind.i64 (Int.tdiv (↑(ByteArray.size b) : Int) 2) * 2) ≤ (↑(ByteArray.size b) : Int)) ∧ Holds (0 ≤ IntKind.wrap IntKind.i64 (IntKind.wrap IntKind.i64 (Int.tdiv (↑(ByteArray.size c) : Int) 2) * 2) ∧ IntKind.wrap IntKind.i64 (IntKind.wrap IntKind.i64 (Int.tdiv (↑(ByteArray.size c) : Int) 2) * 2) ≤ (↑(ByteArray.size c) : Int)) ∧ Wk 0 { t := [AV.s (ByteArray.extract a 0 (Int.toNat (IntKind.wrap IntKind.i64 (IntKind.wrap IntKind.i64 (Int.tdiv (↑(ByteArray.size a) : Int) 2) * 2)))), AV.s (ByteArray.extract b 0 (Int.toNat (IntKind.wrap IntKind.i64 (IntKind.wrap IntKind.i64 (Int.tdiv (↑(ByteArray.size b) : Int) 2) * 2)))), AV.s (ByteArray.extract c 0 (Int.toNat (IntKind.wrap IntKind.i64 (IntKind.wrap IntKind.i64 (Int.tdiv (↑(ByteArray.size c) : Int) 2) * 2)))), AV.s d, AV.s e, .bad, .bad, .bad, .bad, .bad, .bad, .bad, .bad, .bad, .bad, .bad, .bad, .bad, .bad, .bad, .bad, .bad, .bad, .bad, .bad, .bad, .bad, .bad, .bad, .bad, .bad, .bad, .bad, .bad, .bad, .bad, .bad, .bad, .bad, .bad, .bad, .bad, .bad, .bad, .bad, .bad, .bad, .bad, .bad, .bad, .bad, .bad, .bad, .bad, .bad, .bad, .bad, .bad, .bad, .bad, .bad, .bad, .bad, .bad, .bad, .bad, .bad, .bad, .bad, .bad, .bad, .bad, .bad, .bad, .bad, .bad, .bad, .bad, .bad, .bad, .bad, .bad, .bad, .bad, .bad, .bad, .bad, .bad, .bad, .bad, .bad, .bad, .bad, .bad, .bad, .bad, .bad, .bad, .bad, .bad, .bad, .bad, .bad, .bad, .bad, .bad, .bad, .bad, .bad, .bad, .bad, .bad, .bad, .bad, .bad, .bad, .bad, .bad, .bad, .bad, .bad], h := [] } { t := [AV.s (ByteArray.extract a 0 (Int.toNat (IntKind.wrap IntKind.i64 (IntKind.wrap IntKind.i64 (Int.tdiv (↑(ByteArray.size a) : Int) 2) * 2)))), AV.s (ByteArray.extract b 0 (Int.toNat (IntKind.wrap IntKind.i64 (IntKind.wrap IntKind.i64 (Int.tdiv (↑(ByteArray.size b) : Int) 2) * 2)))), AV.s (ByteArray.extract c 0 (Int.toNat (IntKind.wrap IntKind.i64 (IntKind.wrap IntKind.i64 (Int.tdiv (↑(ByteArray.size c) : Int) 2) * 2)))), AV.s d, AV.s e, .bad, .bad, .bad, .bad, .bad, .bad, .bad, .bad, .bad, .bad, .bad, .bad, .bad, .bad, .bad, .bad, .bad, .bad, .bad, .bad, .bad, .bad, .bad, .bad, .bad, .bad, .bad, .bad, .bad, .bad, .bad, .bad, .bad, .bad, .bad, .bad, .bad, .bad, .bad, .bad, .bad, .bad, .bad, .bad, .bad, .bad, .bad, .bad, .bad, .bad, .bad, .bad, .bad, .bad, .bad, .bad, .bad, .bad, .bad, .bad, .bad, .bad, .bad, .bad, .bad, .bad, .bad, .bad, .bad, .bad, .bad, .bad, .bad, .bad, .bad, .bad, .bad, .bad, .bad, .bad, .bad, .bad, .bad, .bad, .bad, .bad, .bad, .bad, .bad, .bad, .bad, .bad, .bad, .bad, .bad, .bad, .bad, .bad, .bad, .bad, .bad, .bad, .bad, .bad, .bad, .bad, .bad, .bad, .bad, .bad, .bad, .bad, .bad, .bad, .bad, .bad], h := [] } ∧ ∃ (I : Nat → ByteArray × ByteArray × ByteArray × ByteArray × ByteArray → Prop), ∃ (n : Nat), I n (ByteArray.extract a 0 (Int.toNat (IntKind.wrap IntKind.i64 (IntKind.wrap IntKind.i64 (Int.tdiv (↑(ByteArray.size a) : Int) 2) * 2))), ByteArray.extract b 0 (Int.toNat (IntKind.wrap IntKind.i64 (IntKind.wrap IntKind.i64 (Int.tdiv (↑(ByteArray.size b) : Int) 2) * 2))), ByteArray.extract c 0 (Int.toNat (IntKind.wrap IntKind.i64 (IntKind.wrap IntKind.i64 (Int.tdiv (↑(ByteArray.size c) : Int) 2) * 2))), d, e) ∧ ∀ (a : ByteArray × ByteArray × ByteArray × ByteArray × ByteArray) (n : Nat), I n a → br (decide ((↑(ByteArray.size (Prod.snd (Prod.snd (Prod.snd (Prod.snd a))))) : Int) < (↑(ByteArray.size (Prod.fst (Prod.snd (Prod.snd a)))) : Int))) (Holds (ByteArray.size (Prod.snd (Prod.snd (Prod.snd (Prod.snd a)))) + 1 ≤ 9223372036854775807) ∧ Wk 0 { t := [AV.s (Prod.fst a), AV.s (Prod.fst (Prod.snd a)), AV.s (Prod.fst (Prod.snd (Prod.snd a))), AV.s (Prod.fst (Prod.snd (Prod.snd (Prod.snd a)))), AV.s (Prod.snd (Prod.snd (Prod.snd (Prod.snd a))) ++ { data := #[120] }), .bad, .bad, .bad, .bad, .bad, .bad, .bad, .bad, .bad, .bad, .bad, .bad, .bad, .bad, .bad, .bad, .bad, .bad, .bad, .bad, .bad, .bad, .bad, .bad, .bad, .bad, .bad, .bad, .bad, .bad, .bad, .bad, .bad, .bad, .bad, .bad, .bad, .bad, .bad, .bad, .bad, .bad, .bad, .bad, .bad, .bad, .bad, .bad, .bad, .bad, .bad, .bad, .bad, .bad, .bad, .bad, .bad, .bad, .bad, .bad, .bad, .bad, .bad, .bad, .bad, .bad, .bad, .bad, .bad, .bad, .bad, .bad, .bad, .bad, .bad, .bad, .bad, .bad, .bad, .bad, .bad, .bad, .bad, .bad, .bad, .bad, .bad, .bad, .bad, .bad, .bad, .bad, .bad, .bad, .bad, .bad, .bad, .bad, .bad, .bad, .bad, .bad, .bad, .bad, .bad, .bad, .bad, .bad, .bad, .bad, .bad, .bad, .bad, .bad, .bad, .bad], h := [] } { t := [AV.s a.1, AV.s (Prod.snd a).1, AV.s (Prod.snd (Prod.snd a)).1, AV.s (Prod.snd (Prod.snd (Prod.snd a))).1, AV.s (Prod.snd (Prod.snd (Prod.snd (Prod.snd a))) ++ { data := #[120] }), .bad, .bad, .bad, .bad, .bad, .bad, .bad, .bad, .bad, .bad, .bad, .bad, .bad, .bad, .bad, .bad, .bad, .bad, .bad, .bad, .bad, .bad, .bad, .bad, .bad, .bad, .bad, .bad, .bad, .bad, .bad, .bad, .bad, .bad, .bad, .bad, .bad, .bad, .bad, .bad, .bad, .bad, .bad, .bad, .bad, .bad, .bad, .bad, .bad, .bad, .bad, .bad, .bad, .bad, .bad, .bad, .bad, .bad, .bad, .bad, .bad, .bad, .bad, .bad, .bad, .bad, .bad, .bad, .bad, .bad, .bad, .bad, .bad, .bad, .bad, .bad, .bad, .bad, .bad, .bad, .bad, .bad, .bad, .bad, .bad, .bad, .bad, .bad, .bad, .bad, .bad, .bad, .bad, .bad, .bad, .bad, .bad, .bad, .bad, .bad, .bad, .bad, .bad, .bad, .bad, .bad, .bad, .bad, .bad, .bad, .bad, .bad, .bad, .bad, .bad, .bad], h := [] } ∧ ∃ (m : Nat), Holds (m < n) ∧ I m (Prod.fst a, Prod.fst (Prod.snd a), Prod.fst (Prod.snd (Prod.snd a)), Prod.fst (Prod.snd (Prod.snd (Prod.snd a))), Prod.snd (Prod.snd (Prod.snd (Prod.snd a))) ++ { data := #[120] })) (Holds (0 ≤ (↑(ByteArray.size (Prod.fst (Prod.snd (Prod.snd a)))) : Int) ∧ (↑(ByteArray.size (Prod.fst (Prod.snd (Prod.snd a)))) : Int) ≤ (↑(ByteArray.size (Prod.snd (Prod.snd (Prod.snd (Prod.snd a))))) : Int)) ∧ ∃ (l : List ByteArray), Holds ([AV.s (Prod.fst a), AV.s (Prod.fst (Prod.snd a)), AV.s (Prod.fst (Prod.snd (Prod.snd a))), AV.s (Prod.fst (Prod.snd (Prod.snd (Prod.snd a))))] = List.map AV.s l) ∧ Holds (List.length l = 4) ∧ Holds (okL l) ∧ ∃ (J : ByteArray × ByteArray × ByteArray × ByteArray × ByteArray × Int → Prop), (Holds (ByteArray.size (Prod.fst a) + ByteArray.size (Prod.fst (Prod.snd a)) ≤ 9223372036854775807) ∧ Holds (ByteArray.size (Prod.fst a ++ Prod.fst (Prod.snd a)) + ByteArray.size (Prod.fst (Prod.snd (Prod.snd a))) ≤ 9223372036854775807) ∧ Holds (ByteArray.size (Prod.fst a ++ Prod.fst (Prod.snd a) ++ Prod.fst (Prod.snd (Prod.snd a))) + ByteArray.size (Prod.fst (Prod.snd (Prod.snd (Prod.snd a)))) ≤ 9223372036854775807) ∧ Holds (smallS (Prod.fst a ++ Prod.fst (Prod.snd a) ++ Prod.fst (Prod.snd (Prod.snd a)) ++ Prod.fst (Prod.snd (Prod.snd (Prod.snd a))))) ∧ br (!Zv (Prod.fst a ++ Prod.fst (Prod.snd a) ++ Prod.fst (Prod.snd (Prod.snd a)) ++ Prod.fst (Prod.snd (Prod.snd (Prod.snd a))))) (Holds (rngW (Ov l)) ∧ ∃ (l_1 : List ByteArray), Holds ([AV.s (Prod.fst a), AV.s (Tv (Ov l)), AV.s (Prod.fst (Prod.snd a)), AV.s (Prod.fst (Prod.snd (Prod.snd a))), AV.s (Prod.fst (Prod.snd (Prod.snd (Prod.snd a))))] = List.map AV.s l_1) ∧ Holds (List.length l_1 = 5) ∧ Holds (okL l_1) ∧ br (!Rv l_1) (R (AV.bo false) [Blk.cells [AV.s (Prod.fst a), AV.s (Prod.fst (Prod.snd a)), AV.s (Prod.fst (Prod.snd (Prod.snd a))), AV.s (Prod.fst (Prod.snd (Prod.snd (Prod.snd a))))] true, Blk.cells [AV.s (Prod.fst a), AV.s (Tv (Ov l)), AV.s (Prod.fst (Prod.snd a)), AV.s (Prod.fst (Prod.snd (Prod.snd a))), AV.s (Prod.fst (Prod.snd (Prod.snd (Prod.snd a))))] true]) (Wk 0 { t := [AV.s (Prod.fst a), AV.s (Prod.fst (Prod.snd a)), AV.s (Prod.fst (Prod.snd (Prod.snd a))), AV.s (Prod.fst (Prod.snd (Prod.snd (Prod.snd a)))), AV.s (ByteArray.extract (Prod.snd (Prod.snd (Prod.snd (Prod.snd a)))) 0 (Int.toNat (↑(ByteArray.size (Prod.fst (Prod.snd (Prod.snd a)))) : Int))), .bad, .bad, .bad, .bad, .bad, .bad, AV.i IntKind.i64 (Ov l), .bad, .bad, .bad, .bad, .bad, .bad, .bad, .bad, .bad, .bad, .bad, .bad, .bad, .bad, .bad, .bad, .bad, .bad, .bad, .bad, .bad, .bad, .bad, .bad, .bad, .bad, .bad, .bad, .bad, .bad, .bad, .bad, .bad, .bad, .bad, .bad, .bad, .bad, .bad, .bad, .bad, .bad, .bad, .bad, .bad, .bad, .bad, .bad, .bad, .bad, .bad, .bad, .bad, .bad, .bad, .bad, .bad, .bad, .bad, .bad, .bad, .bad, .bad, .bad, .bad, .bad, .bad, .bad, .bad, .bad, .bad, .bad, .bad, .bad, .bad, .bad, .bad, .bad, .bad, .bad, .bad, .bad, .bad, .bad, .bad, .bad, .bad, .bad, .bad, .bad, .bad, .bad, .bad, .bad, .bad, .bad, .bad, .bad, .bad, .bad, .bad, .bad, .bad, .bad, .bad, .bad, .bad, .bad, .bad], h := [Blk.cells [AV.s (Prod.fst a), AV.s (Prod.fst (Prod.snd a)), AV.s (Prod.fst (Prod.snd (Prod.snd a))), AV.s (Prod.fst (Prod.snd (Prod.snd (Prod.snd a))))] true, Blk.cells [AV.s (Prod.fst a), AV.s (Tv (Ov l)), AV.s (Prod.fst (Prod.snd a)), AV.s (Prod.fst (Prod.snd (Prod.snd a))), AV.s (Prod.fst (Prod.snd (Prod.snd (Prod.snd a))))] true] } { t := [AV.s a.1, AV.s (Prod.snd a).1, AV.s (Prod.snd (Prod.snd a)).1, AV.s (Prod.snd (Prod.snd (Prod.snd a))).1, AV.s (ByteArray.extract (Prod.snd (Prod.snd (Prod.snd (Prod.snd a)))) 0 (Int.toNat (↑(ByteArray.size (Prod.fst (Prod.snd (Prod.snd a)))) : Int))), .bad, .bad, .bad, .bad, .bad, .bad, AV.i IntKind.i64 (Ov l), .bad, .bad, .bad, .bad, .bad, .bad, .bad, .bad, .bad, .bad, .bad, .bad, .bad, .bad, .bad, .bad, .bad, .bad, .bad, .bad, .bad, .bad, .bad, .bad, .bad, .bad, .bad, .bad, .bad, .bad, .bad, .bad, .bad, .bad, .bad, .bad, .bad, .bad, .bad, .bad, .bad, .bad, .bad, .bad, .bad, .bad, .bad, .bad, .bad, .bad, .bad, .bad, .bad, .bad, .bad, .bad, .bad, .bad, .bad, .bad, .bad, .bad, .bad, .bad, .bad, .bad, .bad, .bad, .bad, .bad, .bad, .bad, .bad, .bad, .bad, .bad, .bad, .bad, .bad, .bad, .bad, .bad, .bad, .bad, .bad, .bad, .bad, .bad, .bad, .bad, .bad, .bad, .bad, .bad, .bad, .bad, .bad, .bad, .bad, .bad, .bad, .bad, .bad, .bad, .bad, .bad, .bad, .bad, .bad], h := [] } ∧ J (Prod.fst a, Prod.fst (Prod.snd a), Prod.fst (Prod.snd (Prod.snd a)), Prod.fst (Prod.snd (Prod.snd (Prod.snd a))), ByteArray.extract (Prod.snd (Prod.snd (Prod.snd (Prod.snd a)))) 0 (Int.toNat (↑(ByteArray.size (Prod.fst (Prod.snd (Prod.snd a)))) : Int)), Ov l))) (Wk 0 { t := [AV.s (Prod.fst a), AV.s (Prod.fst (Prod.snd a)), AV.s (Prod.fst (Prod.snd (Prod.snd a))), AV.s (Prod.fst (Prod.snd (Prod.snd (Prod.snd a)))), AV.s (ByteArray.extract (Prod.snd (Prod.snd (Prod.snd (Prod.snd a)))) 0 (Int.toNat (↑(ByteArray.size (Prod.fst (Prod.snd (Prod.snd a)))) : Int))), .bad, .bad, .bad, .bad, .bad, .bad, AV.i IntKind.i64 (Ov l), .bad, .bad, .bad, .bad, .bad, .bad, .bad, .bad, .bad, .bad, .bad, .bad, .bad, .bad, .bad, .bad, .bad, .bad, .bad, .bad, .bad, .bad, .bad, .bad, .bad, .bad, .bad, .bad, .bad, .bad, .bad, .bad, .bad, .bad, .bad, .bad, .bad, .bad, .bad, .bad, .bad, .bad, .bad, .bad, .bad, .bad, .bad, .bad, .bad, .bad, .bad, .bad, .bad, .bad, .bad, .bad, .bad, .bad, .bad, .bad, .bad, .bad, .bad, .bad, .bad, .bad, .bad, .bad, .bad, .bad, .bad, .bad, .bad, .bad, .bad, .bad, .bad, .bad, .bad, .bad, .bad, .bad, .bad, .bad, .bad, .bad, .bad, .bad, .bad, .bad, .bad, .bad, .bad, .bad, .bad, .bad, .bad, .bad, .bad, .bad, .bad, .bad, .bad, .bad, .bad, .bad, .bad, .bad, .bad], h := [Blk.cells [AV.s (Prod.fst a), AV.s (Prod.fst (Prod.snd a)), AV.s (Prod.fst (Prod.snd (Prod.snd a))), AV.s (Prod.fst (Prod.snd (Prod.snd (Prod.snd a))))] true] } { t := [AV.s a.1, AV.s (Prod.snd a).1, AV.s (Prod.snd (Prod.snd a)).1, AV.s (Prod.snd (Prod.snd (Prod.snd a))).1, AV.s (ByteArray.extract (Prod.snd (Prod.snd (Prod.snd (Prod.snd a)))) 0 (Int.toNat (↑(ByteArray.size (Prod.fst (Prod.snd (Prod.snd a)))) : Int))), .bad, .bad, .bad, .bad, .bad, .bad, AV.i IntKind.i64 (Ov l), .bad, .bad, .bad, .bad, .bad, .bad, .bad, .bad, .bad, .bad, .bad, .bad, .bad, .bad, .bad, .bad, .bad, .bad, .bad, .bad, .bad, .bad, .bad, .bad, .bad, .bad, .bad, .bad, .bad, .bad, .bad, .bad, .bad, .bad, .bad, .bad, .bad, .bad, .bad, .bad, .bad, .bad, .bad, .bad, .bad, .bad, .bad, .bad, .bad, .bad, .bad, .bad, .bad, .bad, .bad, .bad, .bad, .bad, .bad, .bad, .bad, .bad, .bad, .bad, .bad, .bad, .bad, .bad, .bad, .bad, .bad, .bad, .bad, .bad, .bad, .bad, .bad, .bad, .bad, .bad, .bad, .bad, .bad, .bad, .bad, .bad, .bad, .bad, .bad, .bad, .bad, .bad, .bad, .bad, .bad, .bad, .bad, .bad, .bad, .bad, .bad, .bad, .bad, .bad, .bad, .bad, .bad, .bad, .bad], h := [] } ∧ J (Prod.fst a, Prod.fst (Prod.snd a), Prod.fst (Prod.snd (Prod.snd a)), Prod.fst (Prod.snd (Prod.snd (Prod.snd a))), ByteArray.extract (Prod.snd (Prod.snd (Prod.snd (Prod.snd a)))) 0 (Int.toNat (↑(ByteArray.size (Prod.fst (Prod.snd (Prod.snd a)))) : Int)), Ov l))) ∧ ∀ (a : ByteArray × ByteArray × ByteArray × ByteArray × ByteArray × Int), J a → Holds (smallS (Prod.fst (Prod.snd (Prod.snd a)))) ∧ Holds (smallS (Prod.fst (Prod.snd (Prod.snd (Prod.snd (Prod.snd a)))))) ∧ br (decide (Uv (Prod.snd (Prod.snd (Prod.snd (Prod.snd (Prod.snd a))))) (Prod.fst (Prod.snd (Prod.snd a))) (Prod.fst (Prod.snd (Prod.snd (Prod.snd (Prod.snd a))))) < 0)) (R (AV.bo false) []) (br (decide (Uv (Prod.snd (Prod.snd (Prod.snd (Prod.snd (Prod.snd a))))) (Prod.fst (Prod.snd (Prod.snd a))) (Prod.fst (Prod.snd (Prod.snd (Prod.snd (Prod.snd a))))) > 65535)) (R (AV.bo false) []) (Holds (ByteArray.size (Prod.fst a) + ByteArray.size (Prod.fst (Prod.snd a)) ≤ 9223372036854775807) ∧ Holds (ByteArray.size (Prod.fst a ++ Prod.fst (Prod.snd a)) + ByteArray.size (Prod.fst (Prod.snd (Prod.snd (Prod.snd (Prod.snd a))))) ≤ 9223372036854775807) ∧ Holds (ByteArray.size (Prod.fst a ++ Prod.fst (Prod.snd a) ++ Prod.fst (Prod.snd (Prod.snd (Prod.snd (Prod.snd a))))) + ByteArray.size (Prod.fst (Prod.snd (Prod.snd (Prod.snd a)))) ≤ 9223372036854775807) ∧ Holds (smallS (Prod.fst a ++ Prod.fst (Prod.snd a) ++ Prod.fst (Prod.snd (Prod.snd (Prod.snd (Prod.snd a)))) ++ Prod.fst (Prod.snd (Prod.snd (Prod.snd a))))) ∧ br (Zv (Prod.fst a ++ Prod.fst (Prod.snd a) ++ Prod.fst (Prod.snd (Prod.snd (Prod.snd (Prod.snd a)))) ++ Prod.fst (Prod.snd (Prod.snd (Prod.snd a))))) (R (AV.bo true) []) (Holds (rngW (Uv (Prod.snd (Prod.snd (Prod.snd (Prod.snd (Prod.snd a))))) (Prod.fst (Prod.snd (Prod.snd a))) (Prod.fst (Prod.snd (Prod.snd (Prod.snd (Prod.snd a))))))) ∧ ∃ (l : List ByteArray), Holds ([AV.s (Prod.fst a), AV.s (Tv (Uv (Prod.snd (Prod.snd (Prod.snd (Prod.snd (Prod.snd a))))) (Prod.fst (Prod.snd (Prod.snd a))) (Prod.fst (Prod.snd (Prod.snd (Prod.snd (Prod.snd a))))))), AV.s (Prod.fst (Prod.snd a)), AV.s (Prod.fst (Prod.snd (Prod.snd (Prod.snd (Prod.snd a))))), AV.s (Prod.fst (Prod.snd (Prod.snd (Prod.snd a))))] = List.map AV.s l) ∧ Holds (List.length l = 5) ∧ Holds (okL l) ∧ R (AV.bo (Rv l)) [Blk.cells [AV.s (Prod.fst a), AV.s (Tv (Uv (Prod.snd (Prod.snd (Prod.snd (Prod.snd (Prod.snd a))))) (Prod.fst (Prod.snd (Prod.snd a))) (Prod.fst (Prod.snd (Prod.snd (Prod.snd (Prod.snd a))))))), AV.s (Prod.fst (Prod.snd a)), AV.s (Prod.fst (Prod.snd (Prod.snd (Prod.snd (Prod.snd a))))), AV.s (Prod.fst (Prod.snd (Prod.snd (Prod.snd a))))] true])))))))))) := by kernel_rfl
theorem vc8 (Ov : List ByteArray → Int) (Rv : List ByteArray → Bool) (Zv : ByteArray → Bool) (Tv : Int → ByteArray) (Uv : Int → ByteArray → ByteArray → Int) (Wv : ByteArray → Int) (a b c : ByteArray) (R : AV → Hp → Prop) : (wpFn P (TL Ov Rv Zv Tv Uv Wv) noW head8 0 Go.Proofs.Try.f8 [.s a, .s b, .s c] [] R) = (br (decide ((↑(ByteArray.size a) : Int) > 2000)) (R (AV.bo true) []) (br (decide ((↑(ByteArray.size b) : Int) > 2000)) (R (AV.bo true) []) (br (decide ((↑(ByteArray.size c) : Int) > 2000)) (R (AV.bo true) []) (Holds (0 ≤ IntKind.wrap IntKind.i64 (IntKind.wrap IntKind.i64 (Int.tdiv (↑(ByteArray.size b) : Int) 2) * 2) ∧ IntKind.wrap IntKind.i64 (IntKind.wrap IntKind.i64 (Int.tdiv (↑(ByteArray.size b) : Int) 2) * 2) ≤ (↑(ByteArray.size b) : Int)) ∧ Wk 0 { t := [AV.s a, AV.s (ByteArray.extract b 0 (Int.toNat (IntKind.wrap IntKind.i64 (IntKind.wrap IntKind.i64 (Int.tdiv (↑(ByteArray.size b) : Int) 2) * 2)))), AV.s c, .bad, .bad, .bad, .bad, .bad, .bad, .bad, .bad, .bad, .bad, .bad, .bad, .bad, .bad, .bad, .bad, .bad, .bad, .bad, .bad, .bad, .bad, .bad, .bad, .bad, .bad, .bad, .bad, .bad, .bad, .bad, .bad, .bad, .bad, .bad, .bad, .bad, .bad, .bad, .bad, .bad, .bad, .bad, .bad, .bad, .bad, .bad, .bad, .bad, .bad, .bad, .bad, .bad, .bad, .bad, .bad, .bad, .bad, .bad, .bad, .bad, .bad, .bad, .bad, .bad, .bad, .bad, .bad, .bad, .bad, .bad, .bad], h := [] } { t := [AV.s a, AV.s (ByteArray.extract b 0 (Int.toNat (IntKind.wrap IntKind.i64 (IntKind.wrap IntKind.i64 (Int.tdiv (↑(ByteArray.size b) : Int) 2) * 2)))), AV.s c, .bad, .bad, .bad, .bad, .bad, .bad, .bad, .bad, .bad, .bad, .bad, .bad, .bad, .bad, .bad, .bad, .bad, .bad, .bad, .bad, .bad, .bad, .bad, .bad, .bad, .bad, .bad, .bad, .bad, .bad, .bad, .bad, .bad, .bad, .bad, .bad, .bad, .bad, .bad, .bad, .bad, .bad, .bad, .bad, .bad, .bad, .bad, .bad, .bad, .bad, .bad, .bad, .bad, .bad, .bad, .bad, .bad, .bad, .bad, .bad, .bad, .bad, .bad, .bad, .bad, .bad, .bad, .bad, .bad, .bad, .bad, .bad], h := [] } ∧ ∃ (I : Nat → ByteArray × ByteArray × ByteArray → Prop), ∃ (n : Nat), I n (a, ByteArray.extract b 0 (Int.toNat (IntKind.wrap IntKind.i64 (IntKind.wrap IntKind.i64 (Int.tdiv (↑(ByteArray.size b) : Int) 2) * 2))), c) ∧ ∀ (a : ByteArray × ByteArray × ByteArray) (n : Nat), I n a → br (decide ((↑(ByteArray.size (Prod.snd (Prod.snd a))) : Int) < (↑(ByteArray.size (Prod.fst (Prod.snd a))) : Int))) (Holds (ByteArray.size (Prod.snd (Prod.snd a)) + 1 ≤ 9223372036854775807) ∧ Wk 0 { t := [AV.s (Prod.fst a), AV.s (Prod.fst (Prod.snd a)), AV.s (Prod.snd (Prod.snd a) ++ { data := #[121] }), .bad, .bad, .bad, .bad, .bad, .bad, .bad, .bad, .bad, .bad, .bad, .bad, .bad, .bad, .bad, .bad, .bad, .bad, .bad, .bad, .bad, .bad, .bad, .bad, .bad, .bad, .bad, .bad, .bad, .bad, .bad, .bad, .bad, .bad, .bad, .bad, .bad, .bad, .bad, .bad, .bad, .bad, .bad, .bad, .bad, .bad, .bad, .bad, .bad, .bad, .bad, .bad, .bad, .bad, .bad, .bad, .bad, .bad, .bad, .bad, .bad, .bad, .bad, .bad, .bad, .bad, .bad, .bad, .bad, .bad, .bad, .bad], h := [] } { t := [AV.s a.1, AV.s (Prod.snd a).1, AV.s (Prod.snd (Prod.snd a) ++ { data := #[121] }), .bad, .bad, .bad, .bad, .bad, .bad, .bad, .bad, .bad, .bad, .bad, .bad, .bad, .bad, .bad, .bad, .bad, .bad, .bad, .bad, .bad, .bad, .bad, .bad, .bad, .bad, .bad, .bad, .bad, .bad, .bad, .bad, .bad, .bad, .bad, .bad, .bad, .bad, .bad, .bad, .bad, .bad, .bad, .bad, .bad, .bad, .bad, .bad, .bad, .bad, .bad, .bad, .bad, .bad, .bad, .bad, .bad, .bad, .bad, .bad, .bad, .bad, .bad, .bad, .bad, .bad, .bad, .bad, .bad, .bad, .bad, .bad], h := [] } ∧ ∃ (m : Nat), Holds (m < n) ∧ I m (Prod.fst a, Prod.fst (Prod.snd a), Prod.snd (Prod.snd a) ++ { data := #[121] })) (Holds (0 ≤ (↑(ByteArray.size (Prod.fst (Prod.snd a))) : Int) ∧ (↑(ByteArray.size (Prod.fst (Prod.snd a))) : Int) ≤ (↑(ByteArray.size (Prod.snd (Prod.snd a))) : Int)) ∧ ∃ (l : List ByteArray), Holds ([AV.s (Prod.fst (Prod.snd a)), AV.s (Prod.fst a)] = List.map AV.s l) ∧ Holds (List.length l = 2) ∧ Holds (okL l) ∧ Holds (smallS (Prod.fst (Prod.snd a))) ∧ Holds (smallS (ByteArray.extract (Prod.snd (Prod.snd a)) 0 (Int.toNat (↑(ByteArray.size (Prod.fst (Prod.snd a))) : Int)))) ∧ Holds (smallS (ByteArray.extract (Prod.snd (Prod.snd a)) 0 (Int.toNat (↑(ByteArray.size (Prod.fst (Prod.snd a))) : Int)))) ∧ Holds (smallS (Prod.fst (Prod.snd a))) ∧ Holds (ByteArray.size (Prod.fst (Prod.snd a)) + ByteArray.size (Prod.fst a) ≤ 9223372036854775807) ∧ Holds (smallS (Prod.fst (Prod.snd a) ++ Prod.fst a)) ∧ br (Zv (Prod.fst (Prod.snd a) ++ Prod.fst a)) (R (AV.bo true) [Blk.cells [AV.s (Prod.fst (Prod.snd a)), AV.s (Prod.fst a)] true]) (Holds (ByteArray.size (ByteArray.extract (Prod.snd (Prod.snd a)) 0 (Int.toNat (↑(ByteArray.size (Prod.fst (Prod.snd a))) : Int))) + ByteArray.size (Prod.fst a) ≤ 9223372036854775807) ∧ Holds (smallS (ByteArray.extract (Prod.snd (Prod.snd a)) 0 (Int.toNat (↑(ByteArray.size (Prod.fst (Prod.snd a))) : Int)) ++ Prod.fst a)) ∧ br (Zv (ByteArray.extract (Prod.snd (Prod.snd a)) 0 (Int.toNat (↑(ByteArray.size (Prod.fst (Prod.snd a))) : Int)) ++ Prod.fst a)) (R (AV.bo true) [Blk.cells [AV.s (Prod.fst (Prod.snd a)), AV.s (Prod.fst a)] true]) (∃ (l_1 : List ByteArray), Holds ([AV.s (ByteArray.extract (Prod.snd (Prod.snd a)) 0 (Int.toNat (↑(ByteArray.size (Prod.fst (Prod.snd a))) : Int))), AV.s (Prod.fst a)] = List.map AV.s l_1) ∧ Holds (List.length l_1 = 2) ∧ Holds (okL l_1) ∧ br (Uv (Ov l) (Prod.fst (Prod.snd a)) (ByteArray.extract (Prod.snd (Prod.snd a)) 0 (Int.toNat (↑(ByteArray.size (Prod.fst (Prod.snd a))) : Int))) == Ov l_1) (R (AV.bo (Uv (Uv (Ov l) (Prod.fst (Prod.snd a)) (ByteArray.extract (Prod.snd (Prod.snd a)) 0 (Int.toNat (↑(ByteArray.size (Prod.fst (Prod.snd a))) : Int)))) (ByteArray.extract (Prod.snd (Prod.snd a)) 0 (Int.toNat (↑(ByteArray.size (Prod.fst (Prod.snd a))) : Int))) (Prod.fst (Prod.snd a)) == Ov l)) [Blk.cells [AV.s (Prod.fst (Prod.snd a)), AV.s (Prod.fst a)] true, Blk.cells [AV.s (ByteArray.extract (Prod.snd (Prod.snd a)) 0 (Int.toNat (↑(ByteArray.size (Prod.fst (Prod.snd a))) : Int))), AV.s (Prod.fst a)] true]) (R (AV.bo false) [Blk.cells [AV.s (Prod.fst (Prod.snd a)), AV.s (Prod.fst a)] true, Blk.cells [AV.s (ByteArray.extract (Prod.snd (Prod.snd a)) 0 (Int.toNat (↑(ByteArray.size (Prod.fst (Prod.snd a))) : Int))), AV.s (Prod.fst a)] true])))))))) := by kernel_rfl
theorem vc9 (Ov : List ByteArray → Int) (Rv : List ByteArray → Bool) (Zv : ByteArray → Bool) (Tv : Int → ByteArray) (Uv : Int → ByteArray → ByteArray → Int) (Wv : ByteArray → Int) (n : Int) (a b c : ByteArray) (R : AV → Hp → Prop) : (wpFn P (TL Ov Rv Zv Tv Uv Wv) noW noL 0 Go.Proofs.Try.f9 [.i .u16 n, .s a, .s b, .s c] [] R) = (br (decide ((↑(ByteArray.size a) : Int) > 2000)) (R (AV.bo true) []) (br (decide ((↑(ByteArray.size b) : Int) > 2000)) (R (AV.bo true) []) (br (decide ((↑(ByteArray.size c) : Int) > 2000)) (R (AV.bo true) []) (br (n == 65535) (R (AV.bo true) []) (Holds (smallS a) ∧ Holds (smallS b) ∧ Holds (smallS b) ∧ Holds (smallS c) ∧ Holds (smallS a) ∧ Holds (smallS c) ∧ Holds (smallS a) ∧ Holds (smallS a) ∧ br (Uv (Uv (IntKind.wrap IntKind.i64 n) a b) b c == Uv (IntKind.wrap IntKind.i64 n) a c) (br (Uv (IntKind.wrap IntKind.i64 n) a a == IntKind.wrap IntKind.i64 n) (Holds (0 ≤ Int.tmod (↑(ByteArray.size a) : Int) 2 ∧ Int.tmod (↑(ByteArray.size a) : Int) 2 ≤ (↑(ByteArray.size { data := #[0, 0] }) : Int)) ∧ Holds (ByteArray.size a + ByteArray.size (ByteArray.extract { data := #[0, 0] } 0 (Int.toNat (Int.tmod (↑(ByteArray.size a) : Int) 2))) ≤ 9223372036854775807) ∧ Holds (ByteArray.size (a ++ ByteArray.extract { data := #[0, 0] } 0 (Int.toNat (Int.tmod (↑(ByteArray.size a) : Int) 2))) + 2 ≤ 9223372036854775807) ∧ Holds (smallS (a ++ ByteArray.extract { data := #[0, 0] } 0 (Int.toNat (Int.tmod (↑(ByteArray.size a) : Int) 2)) ++ { data := #[0, 0] })) ∧ Holds (smallS c) ∧ R (AV.bo (Uv (IntKind.wrap IntKind.i64 n) (a ++ ByteArray.extract { data := #[0, 0] } 0 (Int.toNat (Int.tmod (↑(ByteArray.size a) : Int) 2)) ++ { data := #[0, 0] }) c == Uv (IntKind.wrap IntKind.i64 n) a c)) []) (br (n == 0) (br (Uv (IntKind.wrap IntKind.i64 n) a a == 65535) (Holds (0 ≤ Int.tmod (↑(ByteArray.size a) : Int) 2 ∧ Int.tmod (↑(ByteArray.size a) : Int) 2 ≤ (↑(ByteArray.size { data := #[0, 0] }) : Int)) ∧ Holds (ByteArray.size a + ByteArray.size (ByteArray.extract { data := #[0, 0] } 0 (Int.toNat (Int.tmod (↑(ByteArray.size a) : Int) 2))) ≤ 9223372036854775807) ∧ Holds (ByteArray.size (a ++ ByteArray.extract { data := #[0, 0] } 0 (Int.toNat (Int.tmod (↑(ByteArray.size a) : Int) 2))) + 2 ≤ 9223372036854775807) ∧ Holds (smallS (a ++ ByteArray.extract { data := #[0, 0] } 0 (Int.toNat (Int.tmod (↑(ByteArray.size a) : Int) 2)) ++ { data := #[0, 0] })) ∧ Holds (smallS c) ∧ R (AV.bo (Uv (IntKind.wrap IntKind.i64 n) (a ++ ByteArray.extract { data := #[0, 0] } 0 (Int.toNat (Int.tmod (↑(ByteArray.size a) : Int) 2)) ++ { data := #[0, 0] }) c == Uv (IntKind.wrap IntKind.i64 n) a c)) []) (R (AV.bo false) [])) (R (AV.bo false) []))) (br (IntKind.wrap IntKind.i64 (Uv (Uv (IntKind.wrap IntKind.i64 n) a b) b c + Uv (IntKind.wrap IntKind.i64 n) a c) == 65535) (br (Uv (Uv (IntKind.wrap IntKind.i64 n) a b) b c == 0) (br (Uv (IntKind.wrap IntKind.i64 n) a a == IntKind.wrap IntKind.i64 n) (Holds (0 ≤ Int.tmod (↑(ByteArray.size a) : Int) 2 ∧ Int.tmod (↑(ByteArray.size a) : Int) 2 ≤ (↑(ByteArray.size { data := #[0, 0] }) : Int)) ∧ Holds (ByteArray.size a + ByteArray.size (ByteArray.extract { data := #[0, 0] } 0 (Int.toNat (Int.tmod (↑(ByteArray.size a) : Int) 2))) ≤ 9223372036854775807) ∧ Holds (ByteArray.size (a ++ ByteArray.extract { data := #[0, 0] } 0 (Int.toNat (Int.tmod (↑(ByteArray.size a) : Int) 2))) + 2 ≤ 9223372036854775807) ∧ Holds (smallS (a ++ ByteArray.extract { data := #[0, 0] } 0 (Int.toNat (Int.tmod (↑(ByteArray.size a) : Int) 2)) ++ { data := #[0, 0] })) ∧ Holds (smallS c) ∧ R (AV.bo (Uv (IntKind.wrap IntKind.i64 n) (a ++ ByteArray.extract { data := #[0, 0] } 0 (Int.toNat (Int.tmod (↑(ByteArray.size a) : Int) 2)) ++ { data := #[0, 0] }) c == Uv (IntKind.wrap IntKind.i64 n) a c)) []) (br (n == 0) (br (Uv (IntKind.wrap IntKind.i64 n) a a == 65535) (Holds (0 ≤ Int.tmod (↑(ByteArray.size a) : Int) 2 ∧ Int.tmod (↑(ByteArray.size a) : Int) 2 ≤ (↑(ByteArray.size { data := #[0, 0] }) : Int)) ∧ Holds (ByteArray.size a + ByteArray.size (ByteArray.extract { data := #[0, 0] } 0 (Int.toNat (Int.tmod (↑(ByteArray.size a) : Int) 2))) ≤ 9223372036854775807) ∧ Holds (ByteArray.size (a ++ ByteArray.extract { data := #[0, 0] } 0 (Int.toNat (Int.tmod (↑(ByteArray.size a) : Int) 2))) + 2 ≤ 9223372036854775807) ∧ Holds (smallS (a ++ ByteArray.extract { data := #[0, 0] } 0 (Int.toNat (Int.tmod (↑(ByteArray.size a) : Int) 2)) ++ { data := #[0, 0] })) ∧ Holds (smallS c) ∧ R (AV.bo (Uv (IntKind.wrap IntKind.i64 n) (a ++ ByteArray.extract { data := #[0, 0] } 0 (Int.toNat (Int.tmod (↑(ByteArray.size a) : Int) 2)) ++ { data := #[0, 0] }) c == Uv (IntKind.wrap IntKind.i64 n) a c)) []) (R (AV.bo false) [])) (R (AV.bo false) []))) (br (Uv (IntKind.wrap IntKind.i64 n) a c == 0) (br (Uv (IntKind.wrap IntKind.i64 n) a a == IntKind.wrap IntKind.i64 n) (Holds (0 ≤ Int.tmod (↑(ByteArray.size a) : Int) 2 ∧ Int.tmod (↑(ByteArray.size a) : Int) 2 ≤ (↑(ByteArray.size { data := #[0, 0] }) : Int)) ∧ Holds (ByteArray.size a + ByteArray.size (ByteArray.extract { data := #[0, 0] } 0 (Int.toNat (Int.tmod (↑(ByteArray.size a) : Int) 2))) ≤ 9223372036854775807) ∧ Holds (ByteArray.size (a ++ ByteArray.extract { data := #[0, 0] } 0 (Int.toNat (Int.tmod (↑(ByteArray.size a) : Int) 2))) + 2 ≤ 9223372036854775807) ∧ Holds (smallS (a ++ ByteArray.extract { data := #[0, 0] } 0 (Int.toNat (Int.tmod (↑(ByteArray.size a) : Int) 2)) ++ { data := #[0, 0] })) ∧ Holds (smallS c) ∧ R (AV.bo (Uv (IntKind.wrap IntKind.i64 n) (a ++ ByteArray.extract { data := #[0, 0] } 0 (Int.toNat (Int.tmod (↑(ByteArray.size a) : Int) 2)) ++ { data := #[0, 0] }) c == Uv (IntKind.wrap IntKind.i64 n) a c)) []) (br (n == 0) (br (Uv (IntKind.wrap IntKind.i64 n) a a == 65535) (Holds (0 ≤ Int.tmod (↑(ByteArray.size a) : Int) 2 ∧ Int.tmod (↑(ByteArray.size a) : Int) 2 ≤ (↑(ByteArray.size { data := #[0, 0] }) : Int)) ∧ Holds (ByteArray.size a + ByteArray.size (ByteArray.extract { data := #[0, 0] } 0 (Int.toNat (Int.tmod (↑(ByteArray.size a) : Int) 2))) ≤ 9223372036854775807) ∧ Holds (ByteArray.size (a ++ ByteArray.extract { data := #[0, 0] } 0 (Int.toNat (Int.tmod (↑(ByteArray.size a) : Int) 2))) + 2 ≤ 9223372036854775807) ∧ Holds (smallS (a ++ ByteArray.extract { data := #[0, 0] } 0 (Int.toNat (Int.tmod (↑(ByteArray.size a) : Int) 2)) ++ { data := #[0, 0] })) ∧ Holds (smallS c) ∧ R (AV.bo (Uv (IntKind.wrap IntKind.i64 n) (a ++ ByteArray.extract { data := #[0, 0] } 0 (Int.toNat (Int.tmod (↑(ByteArray.size a) : Int) 2)) ++ { data := #[0, 0] }) c == Uv (IntKind.wrap IntKind.i64 n) a c)) []) (R (AV.bo false) [])) (R (AV.bo false) []))) (R (AV.bo false) []))) (R (AV.bo false) []))))))) := by kernel_rfl
theorem size_len (s : ByteArray) : s.size = s.data.toList.length := by rw [Array.length_toList]; rfl
theorem add_list (s t : ByteArray) : (s ++ t).data.toList = s.data.toList ++ t.data.toList := by simp
theorem take_list (s : ByteArray) (n : Nat) : (s.extract 0 n).data.toList = s.data.toList.take n := by
  rw [ByteArray.data_extract, Array.toList_extract]; simp
theorem ws_two (a b : List UInt8) (h : a.length % 2 = 0) : ws false true (a ++ b) = ws false true a + ws false true b := by rw [ws_append, pe_even h]
theorem cat1 (s : ByteArray) : cat [s] = s.data.toList := by simp [cat]
theorem cat2 (s t : ByteArray) : cat [s, t] = s.data.toList ++ t.data.toList := by simp [cat]
theorem cat4 (a b c d : ByteArray) : cat [a, b, c, d] = a.data.toList ++ (b.data.toList ++ (c.data.toList ++ d.data.toList)) := by simp [cat]
theorem cat5 (a b c d e : ByteArray) : cat [a, b, c, d, e] = a.data.toList ++ (b.data.toList ++ (c.data.toList ++ (d.data.toList ++ e.data.toList))) := by simp [cat]
theorem cat_len {k : Nat} : ∀ {l : List ByteArray}, (∀ x ∈ l, x.size ≤ k) → (cat l).length ≤ k * l.length
  | [], _ => by simp [cat]
  | x :: l, h => by
    have h1 := h x (by simp)
    have h2 := cat_len (k := k) (l := l) fun y hy => h y (by simp [hy])
    have : cat (x :: l) = x.data.toList ++ cat l := by simp [cat]
    rw [this, List.length_append, ← size_len, List.length_cons, Nat.mul_succ]; omega
theorem ok5 {l : List ByteArray} (h : l.length ≤ 5) (h2 : ∀ x ∈ l, x.size ≤ 10000) : okL l := by
  have := cat_len h2
  have h3 : 10000 * l.length ≤ 10000 * 5 := Nat.mul_le_mul_left _ h
  exact ⟨by omega, by omega⟩
/-! two -/
def Tv (n : Int) : ByteArray := textOf [IntKind.wrap .u8 (n.fdiv 256), IntKind.wrap .u8 n]
theorem wrap8 (x : Int) : IntKind.wrap .u8 x = x % 256 := by simp [IntKind.wrap, IntKind.bits, IntKind.signed]
theorem run16 (n : Int) : wpFn P tnil noW noL 0 Go.Proofs.Try.f16 [.i .i64 n] [] fun v _ => v = .s (Tv n) := by
  rw [vc16]
  have h8 : (2 : Int) ^ min (Int.toNat 8) (IntKind.bits IntKind.i64) = 256 := by decide
  rw [h8]
  exact ⟨⟨by simp⟩, _, ⟨rfl⟩, rfl⟩
theorem Tv_list {n : Int} (h : rngW n) : (Tv n).data.toList = [UInt8.ofNat (n / 256).toNat, UInt8.ofNat (n % 256).toNat] := by
  obtain ⟨h0, h1⟩ := h
  have e1 : IntKind.wrap .u8 (n.fdiv 256) = n / 256 := by rw [wrap8, Int.fdiv_eq_ediv_of_nonneg _ (by decide)]; omega
  have e2 : IntKind.wrap .u8 n = n % 256 := wrap8 n
  unfold Tv
  rw [e1, e2]; rfl
theorem Tv_len {n : Int} (h : rngW n) : (Tv n).data.toList.length = 2 := by rw [Tv_list h]; rfl
theorem Tv_size {n : Int} (h : rngW n) : (Tv n).size = 2 := by rw [size_len, Tv_len h]
theorem Tv_ws {n : Int} (h : rngW n) : ws false true (Tv n).data.toList = n := by
  rw [Tv_list h]
  obtain ⟨h0, h1⟩ := h
  simp only [ws, wv, Bool.not_true, Bool.not_false, if_true, Bool.false_eq_true, if_false, UInt8.toNat_ofNat']
  omega
/-! clean -/
def allz (l : List UInt8) : Bool := l.all (· == 0)
theorem allz_false {l : List UInt8} (h : allz l = false) : ∃ b ∈ l, b ≠ 0 := by
  unfold allz at h
  rw [List.all_eq_false] at h
  obtain ⟨x, hx, hne⟩ := h
  exact ⟨x, hx, by simpa using hne⟩
def Zv (s : ByteArray) : Bool := allz s.data.toList
theorem run17 {s : ByteArray} (hs : smallS s) : wpFn P tnil noW (head17 s) 0 Go.Proofs.Try.f17 [.s s] [] fun v _ => v = .bo (Zv s) := by
  rw [vc17]; simp only [wk_and]
  have hs : s.size ≤ 1073741824 := hs
  refine ⟨fun k q => ∃ i : Nat, q = (i : Int) ∧ i + k = s.size ∧ Zv s = allz (s.data.toList.drop i), s.size, ⟨0, rfl, by omega, rfl⟩, ?_⟩
  rintro q k ⟨i, rfl, hk, hz⟩
  refine br_intro (fun h => ?_) (fun h => ?_)
  · have h : (i : Int) < s.size := by simpa using h
    have hi : i < s.data.toList.length := by rw [← size_len]; omega
    have hd : s.data.toList.drop i = s.data.toList[i] :: s.data.toList.drop (i + 1) := List.drop_eq_getElem_cons hi
    refine ⟨⟨by omega⟩, s.data.toList[i], ⟨by rw [Int.toNat_natCast]; exact byte_at rfl hi⟩, br_intro (fun hb => ?_) (fun hb => ?_)⟩
    · have hne : s.data.toList[i] ≠ 0 := fun e => by rw [e] at hb; simp at hb
      rw [hz, hd]; simp only [allz, List.all_cons]
      rw [show (s.data.toList[i] == 0) = false from by simpa using hne]; rfl
    · have he : s.data.toList[i] = 0 := by
        have : ((s.data.toList[i]).toNat : Int) = 0 := by simpa using hb
        exact UInt8.toNat.inj (by simpa using this)
      refine ⟨k - 1, ⟨by omega⟩, i + 1, by rw [i64w (by omega) (by omega)]; omega, by omega, ?_⟩
      rw [hz, hd]; simp [allz, he]
  · have h : (s.size : Int) ≤ i := by simpa using h
    rw [hz, List.drop_eq_nil_of_le (by rw [← size_len]; omega)]; rfl
/-! even, Update -/
def Ev (s : ByteArray) : ByteArray := if s.size % 2 = 1 then s ++ ⟨#[0]⟩ else s
theorem Ev_list (s : ByteArray) : (Ev s).data.toList = padl s.data.toList := by
  unfold Ev padl
  rw [← size_len]
  split
  · simp
  · rfl
theorem run28 {s : ByteArray} (hs : smallS s) : wpFn P tnil noW noL 0 Go.Proofs.Try.f28 [.s s] [] fun v _ => v = .s (Ev s) := by
  rw [vc28]
  have hs : s.size ≤ 1073741824 := hs
  refine br_intro (fun h => ?_) (fun h => ?_)
  · have h : Int.tmod (s.size : Int) 2 = 1 := by simpa using h
    rw [Int.tmod_eq_emod_of_nonneg (by omega)] at h
    exact ⟨⟨by omega⟩, by unfold Ev; rw [if_pos (by omega)]⟩
  · have h : ¬ Int.tmod (s.size : Int) 2 = 1 := by simpa using h
    rw [Int.tmod_eq_emod_of_nonneg (by omega)] at h
    show _ = _
    unfold Ev; rw [if_neg (by omega)]
/-- A sum, kept up. -/
def U (n : Int) (old new : List UInt8) : Int := 65535 - F (65535 - n % 65536 + ws true true (padl old) + ws false true new)
def Uv (n : Int) (a b : ByteArray) : Int := U n a.data.toList b.data.toList
theorem run18 {n : Int} {a b : ByteArray} (ha : smallS a) (hb : smallS b) : wpFn P (tcons 24 (t24 F) (tcons 25 (t25 Av) (tcons 28 (tstr smallS fun s => .s (Ev s)) tnil))) noW noL 0 Go.Proofs.Try.f18 [.i .i64 n, .s a, .s b] [] fun v _ => v = .i .i64 (Uv n a b) := by
  rw [vc18]
  have ha' : a.size ≤ 1073741824 := ha
  have hb' : b.size ≤ 1073741824 := hb
  have e1 : IntKind.wrap .i64 (65535 - bits .and .i64 n 65535) = 65535 - n % 65536 := by rw [and_low, i64w (by omega) (by omega)]
  have hE := Ev_list a
  have hl := padl_len a.data.toList
  have hEs : (Ev a).size = a.size + a.size % 2 := by rw [size_len, hE, hl, ← size_len]
  have A1 : Av (65535 - n % 65536) 0 (Ev a) 255 = 65535 - n % 65536 + ws true true (padl a.data.toList) := by
    unfold Av; rw [hE]; rfl
  have r1 := ws_range true (padl a.data.toList) true
  rw [hl, ← size_len] at r1
  have r2 := ws_range false b.data.toList true
  rw [← size_len] at r2
  have hF := F_range (65535 - n % 65536 + ws true true (padl a.data.toList))
  have A2 : ∀ T : Int, Av T 0 b 0 = T + ws false true b.data.toList := fun T => rfl
  rw [e1, A1, A2]
  refine ⟨⟨ha⟩, ⟨?_⟩, ⟨?_⟩, ⟨.inr rfl⟩, ⟨by omega, by omega⟩, ⟨?_⟩, ⟨?_⟩, ⟨.inl rfl⟩, ⟨by omega, by omega⟩, ?_⟩
  · unfold okT; rw [hEs]; omega
  · unfold okA; rw [hEs]; omega
  · unfold okT; omega
  · unfold okA; omega
  · have hF2 := F_range (F (65535 - n % 65536 + ws true true (padl a.data.toList)) + ws false true b.data.toList)
    rw [i64w (by omega) (by omega), F_add (by omega) (by omega)]; rfl
/-! Right, the reference -/
def Rv (l : List ByteArray) : Bool := Ov l == 0
theorem run15 {off len : Nat} {cap : Option Nat} {c : List AV} {l : List ByteArray} (hc : (c.drop off).take len = l.map .s) (hl : l.length = len) (hok : okL l) :
    wpFn P (tcons 13 (tlist .s okL fun l => .i .i64 (Ov l)) tnil) noW noL 0 Go.Proofs.Try.f15 [.sl 0 off len 1 cap] [.cells c false] fun v _ => v = .bo (Rv l) := by
  rw [vc15]
  exact ⟨l, ⟨hc⟩, ⟨hl⟩, ⟨hok⟩, rfl⟩
theorem run15n : wpFn P (tcons 13 (tlist .s okL fun l => .i .i64 (Ov l)) tnil) noW noL 0 Go.Proofs.Try.f15 [.sn] [] fun v _ => v = .bo (Rv []) := by
  rw [vc15n]
  exact ⟨⟨by simp [okL, cat]⟩, rfl⟩
def Qv (s : ByteArray) : Int := 65535 - F (isum (Wv s))
theorem Wv_ok {s : ByteArray} (hs : smallS s) : okI (Wv s) := by
  have hs : s.size ≤ 1073741824 := hs
  have h1 := words_len (padl s.data.toList)
  have h2 := padl_len s.data.toList
  rw [← size_len] at h2
  exact ⟨words_range _, by unfold Wv; omega⟩
theorem run14 {s : ByteArray} (hs : smallS s) : wpFn P (tcons 27 (t27 Wv) (tcons 26 (tlist (.i .i64) okI fun l => .i .i64 (F (isum l))) tnil)) noW noL 0 Go.Proofs.Try.f14 [.s s] [] fun v _ => v = .i .i64 (Qv s) := by
  rw [vc14]
  have hF := fun n => F_range n
  have hw : ∀ n, IntKind.wrap .i64 (65535 - F n) = 65535 - F n := fun n => i64w (by have := hF n; omega) (by have := hF n; omega)
  refine ⟨⟨hs⟩, fun h => ⟨⟨by simp [okI]⟩, ?_⟩, fun h => ⟨Wv s, ⟨by rw [List.drop_zero, List.take_of_length_le (by rw [List.length_map]; exact Nat.le_refl _)]⟩, ⟨rfl⟩, ⟨Wv_ok hs⟩, ?_⟩⟩
  · rw [hw]; unfold Qv; rw [h.out]
  · rw [hw]; rfl
/-! The laws -/
theorem Ov_range (l : List ByteArray) : rngW (Ov l) := by
  have := F_range (ws false true (cat l)); unfold Ov rngW; omega
theorem cutw {s : ByteArray} (h : s.size ≤ 10000) : IntKind.wrap .i64 (IntKind.wrap .i64 (Int.tdiv (s.size : Int) 2) * 2) = ((s.size / 2 * 2 : Nat) : Int) := by
  rw [Int.tdiv_eq_ediv_of_nonneg (by omega), i64w (x := (s.size : Int) / 2) (by omega) (by omega), i64w (by omega) (by omega)]; omega
theorem cut_len (s : ByteArray) : (s.extract 0 (s.size / 2 * 2)).data.toList.length = s.size / 2 * 2 := by
  rw [take_list, List.length_take, ← size_len]; omega
abbrev TT : TEnv := TL Ov Rv Zv Tv Uv Qv
theorem own_full (S p : List UInt8) (hS : S.length % 2 = 0) (hp : ws false true p = 65535 - F (ws false true S)) : 0 < ws false true (S ++ p) ∧ ws false true (S ++ p) % 65535 = 0 := by
  rw [ws_two _ _ hS, hp]
  have h0 := (ws_range false S true).1
  have hm := F_mod (ws false true S) h0
  have hr := F_range (ws false true S)
  by_cases c : ws false true S = 0
  · rw [c]; decide
  · have := F_pos (n := ws false true S) (by omega)
    constructor <;> omega
theorem Rv_full {l : List ByteArray} (h : 0 < ws false true (cat l) ∧ ws false true (cat l) % 65535 = 0) : Rv l = true := by
  unfold Rv Ov; rw [F_full h.1 h.2]; rfl
theorem run5 (a b : ByteArray) : wpFn P TT noW head5 0 Go.Proofs.Try.f5 [.s a, .s b] [] fun v _ => v = .bo true := by
  rw [vc5]
  refine br_intro (fun _ => rfl) (fun h1 => br_intro (fun _ => rfl) (fun h2 => ?_))
  have h1 : (a.size : Int) ≤ 3000 := by simpa using h1
  have h2 : (b.size : Int) ≤ 3000 := by simpa using h2
  rw [cutw (by omega), cutw (by omega), Int.toNat_natCast, Int.toNat_natCast]
  have zA := cut_len a
  have zB := cut_len b
  refine ⟨⟨by omega⟩, ⟨by omega⟩, ?_⟩
  generalize a.extract 0 (a.size / 2 * 2) = A at zA ⊢
  generalize b.extract 0 (b.size / 2 * 2) = B at zB ⊢
  have sA := size_len A
  have sB := size_len B
  have oA := Ov_range [A]
  have oB := Ov_range [B]
  have hrA := F_range (ws false true A.data.toList)
  have h0 := (ws_range false A.data.toList true).1
  have eA : Ov [A] = 65535 - F (ws false true A.data.toList) := by unfold Ov; rw [cat1]
  have eB : Ov [B] = 65535 - F (ws false true B.data.toList) := by unfold Ov; rw [cat1]
  have hF : F (ws false true A.data.toList + ws false true A.data.toList) = F (F (ws false true A.data.toList) + F (ws false true A.data.toList)) := by
    rw [F_add h0 hrA.1, Int.add_comm (ws false true A.data.toList) (F _), F_add h0 h0]
  have hw1 : IntKind.wrap .i64 (2 * IntKind.wrap .i64 (65535 - Ov [A])) = 2 * F (ws false true A.data.toList) := by
    rw [eA, i64w (x := 65535 - _) (by omega) (by omega), i64w (by omega) (by omega)]; omega
  have drop1 : ∀ {t : List AV}, Wk 0 ⟨t, [.cells [AV.s A] true]⟩ ⟨reAs (posOf []) t, []⟩ := fun {t} => Wk.rows [] List.nodup_nil rfl rfl rfl rfl
  refine ⟨[A], ⟨rfl⟩, ⟨rfl⟩, ⟨ok5 (by simp) (by simp; omega)⟩, fun q => q.1 = A ∧ q.2.1 = B ∧ q.2.2 = F (ws false true A.data.toList + ws false true A.data.toList), ?_, ?_⟩
  · rw [hw1]
    refine br_intro (fun hc => ⟨drop1, rfl, rfl, ?_⟩) (fun hc => ⟨drop1, rfl, rfl, ?_⟩)
    · have hc : 65535 < 2 * F (ws false true A.data.toList) := by simpa using hc
      show IntKind.wrap .i64 _ = _
      rw [i64w (by omega) (by omega), hF]
      generalize F (ws false true A.data.toList) = t at hc hrA ⊢
      rw [F_congr (x := t + t) (y := 2 * t - 65535) (by omega) (by omega) (by omega), F_small (n := 2 * t - 65535) (by omega) (by omega)]
    · have hc : 2 * F (ws false true A.data.toList) ≤ 65535 := by simpa using hc
      show 2 * F _ = _
      rw [hF]
      generalize F (ws false true A.data.toList) = t at hc hrA ⊢
      rw [F_small (n := t + t) (by omega) (by omega)]; omega
  · rintro ⟨A', B', n⟩ ⟨e1, e2, e3⟩
    obtain rfl : A' = A := e1
    obtain rfl : B' = B := e2
    obtain rfl : n = _ := e3
    simp only
    have e2A : Ov [A', A'] = 65535 - F (ws false true A'.data.toList + ws false true A'.data.toList) := by unfold Ov; rw [cat2, ws_two _ _ (by omega)]
    have r2 := F_range (ws false true A'.data.toList + ws false true A'.data.toList)
    have zT := Tv_size oA
    have zT' := Tv_size oB
    have fA := own_full A'.data.toList (Tv (Ov [A'])).data.toList (by omega) (by rw [Tv_ws oA, eA])
    have fB := own_full B'.data.toList (Tv (Ov [B'])).data.toList (by omega) (by rw [Tv_ws oB, eB])
    have szA : (A' ++ Tv (Ov [A'])).size = A'.size + 2 := by rw [size_len, add_list, List.length_append, Tv_len oA, ← size_len]
    have szB : (B' ++ Tv (Ov [B'])).size = B'.size + 2 := by rw [size_len, add_list, List.length_append, Tv_len oB, ← size_len]
    rw [← add_list] at fA fB
    refine ⟨[A', A'], ⟨rfl⟩, ⟨rfl⟩, ⟨ok5 (by simp) (by simp; omega)⟩, br_intro (fun hc => ?_) (fun _ => ?_)⟩
    · rw [e2A, i64w (by omega) (by omega)] at hc
      simp only [bne_iff_ne, ne_eq] at hc
      omega
    refine ⟨[A'], ⟨rfl⟩, ⟨rfl⟩, ⟨ok5 (by simp) (by simp; omega)⟩, ⟨oA⟩, ⟨by omega⟩, [B'], ⟨rfl⟩, ⟨rfl⟩, ⟨ok5 (by simp) (by simp; omega)⟩, ⟨oB⟩, ⟨by omega⟩, ⟨show A'.size ≤ _ by omega⟩, br_intro (fun _ => by trivial) (fun _ => ⟨⟨show B'.size ≤ _ by omega⟩, br_intro (fun _ => by trivial) (fun _ => ?_)⟩)⟩
    have R1 : Rv [A' ++ Tv (Ov [A'])] = true := Rv_full (by rw [cat1]; exact fA)
    have R2 : Rv [B' ++ Tv (Ov [B'])] = true := Rv_full (by rw [cat1]; exact fB)
    have R3 : Rv [A' ++ Tv (Ov [A']), B' ++ Tv (Ov [B'])] = true := Rv_full (by rw [cat2, ws_two _ _ (by rw [← size_len, szA]; omega)]; omega)
    have R4 : Rv [B' ++ Tv (Ov [B']), A' ++ Tv (Ov [A'])] = true := Rv_full (by rw [cat2, ws_two _ _ (by rw [← size_len, szB]; omega)]; omega)
    refine ⟨[A' ++ Tv (Ov [A'])], ⟨rfl⟩, ⟨rfl⟩, ⟨ok5 (by simp) (by simp only [List.mem_cons, List.not_mem_nil, or_false, forall_eq]; omega)⟩, ?_⟩
    rw [R1, br_true]
    refine ⟨[B' ++ Tv (Ov [B'])], ⟨rfl⟩, ⟨rfl⟩, ⟨ok5 (by simp) (by simp only [List.mem_cons, List.not_mem_nil, or_false, forall_eq]; omega)⟩, ?_⟩
    rw [R2, br_true]
    refine ⟨[A' ++ Tv (Ov [A']), B' ++ Tv (Ov [B'])], ⟨rfl⟩, ⟨rfl⟩, ⟨ok5 (by simp) (by simp only [List.mem_cons, List.not_mem_nil, or_false, forall_eq_or_imp, forall_eq]; omega)⟩, ?_⟩
    rw [R3, br_true]
    refine ⟨[B' ++ Tv (Ov [B']), A' ++ Tv (Ov [A'])], ⟨rfl⟩, ⟨rfl⟩, ⟨ok5 (by simp) (by simp only [List.mem_cons, List.not_mem_nil, or_false, forall_eq_or_imp, forall_eq]; omega)⟩, ?_⟩
    rw [R4]
/-! SumBack -/
theorem U_even (n : Int) (old new : List UInt8) (h0 : 0 ≤ n) (h : n ≤ 65535) (he : old.length % 2 = 0) :
    U n old new = 65535 - F (65535 - n + (65535 * ((old.length : Int) / 2) - ws false true old) + ws false true new) := by
  have hb := ws_both old he
  unfold U padl
  rw [if_neg (by omega), show n % 65536 = n by omega, show ws true true old = 65535 * ((old.length : Int) / 2) - ws false true old by omega]
theorem back (P O R k : Int) (hP : 0 ≤ P) (hO : 0 ≤ O) (hR : 0 ≤ R) (hk : 0 ≤ 65535 * k - P) (h1 : 0 < P + R) (h2 : 0 < O + R) :
    F (65535 - (65535 - F (P + R)) + (65535 * k - P) + O) = F (O + R) := by
  have hp := F_pos h1
  have hm := F_mod (P + R) (by omega)
  exact F_congr (by omega) h2 (by omega)
theorem back_both {B X A : List UInt8} (eB : B.length % 2 = 0) (eX : X.length = B.length) (c : allz (B ++ A) = false) (c' : allz (X ++ A) = false) :
    U (65535 - F (ws false true B + ws false true A)) B X = 65535 - F (ws false true X + ws false true A) := by
  have p1 := ws_pos _ true (allz_false c)
  have p3 := ws_pos _ true (allz_false c')
  rw [ws_two _ _ eB] at p1
  rw [ws_two _ _ (by omega)] at p3
  have r0 := (ws_range false A true).1
  have r1 := (ws_range false B true).1
  have r3 := (ws_range false X true).1
  have b1 := ws_both B eB
  have b1' := (ws_range true B true).1
  have fR := F_range (ws false true B + ws false true A)
  rw [U_even _ _ _ (by omega) (by omega) eB, back _ _ _ _ r1 r3 r0 (by omega) p1 p3]
theorem run8 (a b c : ByteArray) : wpFn P TT noW head8 0 Go.Proofs.Try.f8 [.s a, .s b, .s c] [] fun v _ => v = .bo true := by
  rw [vc8]; simp only [wk_and]
  refine br_intro (fun _ => by trivial) (fun h1 => br_intro (fun _ => by trivial) (fun h2 => br_intro (fun _ => by trivial) (fun h3 => ?_)))
  have h1 : (a.size : Int) ≤ 2000 := by simpa using h1
  have h2 : (b.size : Int) ≤ 2000 := by simpa using h2
  have h3 : (c.size : Int) ≤ 2000 := by simpa using h3
  rw [cutw (by omega), Int.toNat_natCast]
  have zB := cut_len b
  refine ⟨⟨by omega⟩, ?_⟩
  generalize b.extract 0 (b.size / 2 * 2) = B at zB ⊢
  have sB := size_len B
  have sa := size_len a
  refine ⟨fun k q => q.1 = a ∧ q.2.1 = B ∧ q.2.2.size ≤ 4000 ∧ k = B.size - q.2.2.size, B.size - c.size, ⟨rfl, rfl, by show c.size ≤ 4000; omega, rfl⟩, ?_⟩
  rintro ⟨a', B', x⟩ k ⟨e1, e2, hx, hk⟩
  obtain rfl : a' = a := e1
  obtain rfl : B' = B := e2
  simp only at hx hk ⊢
  refine br_intro (fun h => ?_) (fun h => ?_)
  · have h : (x.size : Int) < B'.size := by simpa using h
    have hs : (x ++ (⟨#[121]⟩ : ByteArray)).size = x.size + 1 := by rw [size_len, add_list, List.length_append, ← size_len]; rfl
    exact ⟨⟨by omega⟩, B'.size - (x.size + 1), ⟨by omega⟩, by trivial, by trivial, by omega, by rw [hs]⟩
  · have h : (B'.size : Int) ≤ x.size := by simpa using h
    rw [Int.toNat_natCast]
    have zX : (x.extract 0 B'.size).size = B'.size := by rw [size_len, take_list, List.length_take, ← size_len]; omega
    refine ⟨⟨by omega⟩, ?_⟩
    generalize x.extract 0 B'.size = X at zX ⊢
    have sX := size_len X
    have tB : (B' ++ a').size = B'.size + a'.size := by rw [size_len, add_list, List.length_append, ← size_len, ← size_len]
    have tX : (X ++ a').size = X.size + a'.size := by rw [size_len, add_list, List.length_append, ← size_len, ← size_len]
    refine ⟨[B', a'], ⟨rfl⟩, ⟨rfl⟩, ⟨ok5 (by simp) (by simp only [List.mem_cons, List.not_mem_nil, or_false, forall_eq_or_imp, forall_eq]; omega)⟩, ⟨show _ ≤ _ by omega⟩, ⟨show _ ≤ _ by omega⟩, ⟨show _ ≤ _ by omega⟩, ⟨show _ ≤ _ by omega⟩, ⟨by omega⟩, ⟨show _ ≤ _ by omega⟩, br_intro (fun _ => by trivial) (fun c1 => ⟨⟨by omega⟩, ⟨show _ ≤ _ by omega⟩, br_intro (fun _ => by trivial) (fun c2 => ?_)⟩)⟩
    refine ⟨[X, a'], ⟨rfl⟩, ⟨rfl⟩, ⟨ok5 (by simp) (by simp only [List.mem_cons, List.not_mem_nil, or_false, forall_eq_or_imp, forall_eq]; omega)⟩, ?_⟩
    have c1 : allz (B'.data.toList ++ a'.data.toList) = false := by rw [← add_list]; exact c1
    have c2 : allz (X.data.toList ++ a'.data.toList) = false := by rw [← add_list]; exact c2
    have O1 : Ov [B', a'] = 65535 - F (ws false true B'.data.toList + ws false true a'.data.toList) := by unfold Ov; rw [cat2, ws_two _ _ (by omega)]
    have O2 : Ov [X, a'] = 65535 - F (ws false true X.data.toList + ws false true a'.data.toList) := by unfold Ov; rw [cat2, ws_two _ _ (by omega)]
    have u1 : Uv (Ov [B', a']) B' X = Ov [X, a'] := by rw [O1, O2]; exact back_both (by omega) (by omega) c1 c2
    have u2 : Uv (Ov [X, a']) X B' = Ov [B', a'] := by rw [O1, O2]; exact back_both (by omega) (by omega) c2 c1
    rw [u1, u2]
    simp only [beq_self_eq_true, br_true]
/-! SumChain -/
theorem U_pad (n : Int) (old new : List UInt8) (h0 : 0 ≤ n) (h : n ≤ 65535) :
    U n old new = 65535 - F (65535 - n + (65535 * (((padl old).length : Int) / 2) - ws false true old) + ws false true new) := by
  have hb := ws_both (padl old) (padl_even old)
  rw [ws_pad] at hb
  unfold U
  rw [show n % 65536 = n by omega, show ws true true (padl old) = 65535 * (((padl old).length : Int) / 2) - ws false true old by omega]
theorem left0 (l : List UInt8) : 0 ≤ 65535 * (((padl l).length : Int) / 2) - ws false true l := by
  have hb := ws_both (padl l) (padl_even l)
  have hr := (ws_range true (padl l) true).1
  rw [ws_pad] at hb
  omega
theorem U_range (n : Int) (old new : List UInt8) : 0 ≤ U n old new ∧ U n old new ≤ 65535 := by
  have := F_range (65535 - n % 65536 + ws true true (padl old) + ws false true new)
  unfold U; omega
theorem chain (n : Int) (a b c : List UInt8) (h0 : 0 ≤ n) (h : n ≤ 65534) : U (U n a b) b c = U n a c := by
  have hr := U_range n a b
  have ha := left0 a
  have hb := left0 b
  have wb := (ws_range false b true).1
  have wc := (ws_range false c true).1
  rw [U_pad (U n a b) b c (by omega) (by omega), U_pad n a c h0 (by omega)]
  have hX := F_pos (n := 65535 - n + (65535 * (((padl a).length : Int) / 2) - ws false true a) + ws false true b) (by omega)
  have hm := F_mod (65535 - n + (65535 * (((padl a).length : Int) / 2) - ws false true a) + ws false true b) (by omega)
  rw [U_pad n a b h0 (by omega)]
  generalize F (65535 - n + (65535 * (((padl a).length : Int) / 2) - ws false true a) + ws false true b) = X at hX hm ⊢
  rw [F_congr (y := 65535 - n + (65535 * (((padl a).length : Int) / 2) - ws false true a) + ws false true c) (by omega) (by omega) (by omega)]
theorem same (n : Int) (a : List UInt8) (h0 : 0 ≤ n) (h : n ≤ 65534) : U n a a = n := by
  rw [U_pad n a a h0 (by omega)]
  have ha := left0 a
  have wa := (ws_range false a true).1
  rw [F_congr (y := 65535 - n) (by omega) (by omega) (by omega), F_small (by omega) (by omega)]
  omega
theorem nought (n : Int) (a b c : List UInt8) (h0 : 0 ≤ n) (h : n ≤ 65534) (hb : ws false true b = ws false true a) : U n b c = U n a c := by
  rw [U_pad n a c h0 (by omega), U_pad n b c h0 (by omega), hb]
  have ha := left0 a
  have hb' := left0 b
  have wa := (ws_range false a true).1
  have wc := (ws_range false c true).1
  rw [F_congr (y := 65535 - n + (65535 * (((padl a).length : Int) / 2) - ws false true a) + ws false true c) (by omega) (by omega) (by omega)]
theorem run9 {n : Int} (hn : rngW n) (a b c : ByteArray) : wpFn P TT noW noL 0 Go.Proofs.Try.f9 [.i .u16 n, .s a, .s b, .s c] [] fun v _ => v = .bo true := by
  rw [vc9]
  refine br_intro (fun _ => rfl) (fun h1 => br_intro (fun _ => rfl) (fun h2 => br_intro (fun _ => rfl) (fun h3 => br_intro (fun _ => rfl) (fun h4 => ?_))))
  have h1 : (a.size : Int) ≤ 2000 := by simpa using h1
  have h2 : (b.size : Int) ≤ 2000 := by simpa using h2
  have h3 : (c.size : Int) ≤ 2000 := by simpa using h3
  have h4 : n ≠ 65535 := by simpa using h4
  obtain ⟨n0, n1⟩ := hn
  have hw : IntKind.wrap .i64 n = n := i64w (by omega) (by omega)
  have sa := size_len a
  have ht : Int.tmod (a.size : Int) 2 = (a.size : Int) % 2 := Int.tmod_eq_emod_of_nonneg (by omega)
  rw [hw, ht]
  have hc : Uv (Uv n a b) b c = Uv n a c := chain n _ _ _ n0 (by omega)
  have hs : Uv n a a = n := same n _ n0 (by omega)
  have zp : ((⟨#[0, 0]⟩ : ByteArray).extract 0 ((a.size : Int) % 2).toNat).data.toList = List.replicate (a.data.toList.length % 2) 0 := by
    rw [take_list, size_len]
    rcases Nat.mod_two_eq_zero_or_one a.data.toList.length with e | e
    · rw [e, show ((a.data.toList.length : Int) % 2).toNat = 0 by omega]; rfl
    · rw [e, show ((a.data.toList.length : Int) % 2).toNat = 1 by omega]; rfl
  generalize (⟨#[0, 0]⟩ : ByteArray).extract 0 ((a.size : Int) % 2).toNat = pp at zp ⊢
  have zl : pp.size ≤ 1 := by rw [size_len, zp, List.length_replicate]; omega
  have z1 : (a ++ pp).size = a.size + pp.size := by rw [size_len, add_list, List.length_append, ← size_len, ← size_len]
  have z2 : ((a ++ pp) ++ (⟨#[0, 0]⟩ : ByteArray)).data.toList = a.data.toList ++ (List.replicate (a.data.toList.length % 2) 0 ++ [0, 0]) := by rw [add_list, add_list, zp, List.append_assoc]
  have z3 : ((a ++ pp) ++ (⟨#[0, 0]⟩ : ByteArray)).size = a.size + pp.size + 2 := by rw [size_len, add_list, List.length_append, ← size_len, z1]; rfl
  have hv : Uv n ((a ++ pp) ++ (⟨#[0, 0]⟩ : ByteArray)) c = Uv n a c := by
    unfold Uv
    rw [z2]
    refine nought n a.data.toList _ _ n0 (by omega) ?_
    rw [ws_append, ws_zero_iff (List.replicate _ 0 ++ [0, 0]) _ (by
      intro b hb
      rw [List.mem_append, List.mem_replicate] at hb
      rcases hb with ⟨_, rfl⟩ | hb
      · rfl
      · simpa using hb)]
    omega
  have s1 : smallS a := show _ ≤ _ by omega
  have s2 : smallS b := show _ ≤ _ by omega
  have s3 : smallS c := show _ ≤ _ by omega
  refine ⟨⟨s1⟩, ⟨s2⟩, ⟨s2⟩, ⟨s3⟩, ⟨s1⟩, ⟨s3⟩, ⟨s1⟩, ⟨s1⟩, ?_⟩
  rw [hc, hs, hv, beq_self_eq_true, beq_self_eq_true, br_true, br_true]
  exact ⟨⟨by omega, by show _ ≤ ((2 : Nat) : Int); omega⟩, ⟨by omega⟩, ⟨by omega⟩, ⟨show _ ≤ _ by omega⟩, ⟨s3⟩, rfl⟩
/-! SumKeeps -/
theorem kept (T P O k : Int) (hT : 0 ≤ T) (hk : 0 ≤ 65535 * k - P) (hO : 0 ≤ O) (hY : 0 < T - P + O) :
    0 < (T - P + O) + (65535 - F (65535 - (65535 - F T) + (65535 * k - P) + O)) ∧ ((T - P + O) + (65535 - F (65535 - (65535 - F T) + (65535 * k - P) + O))) % 65535 = 0 := by
  have hr := F_range T
  have hm := F_mod T hT
  have hX := F_range (65535 - (65535 - F T) + (65535 * k - P) + O)
  have hXm := F_mod (65535 - (65535 - F T) + (65535 * k - P) + O) (by omega)
  generalize F (65535 - (65535 - F T) + (65535 * k - P) + O) = X at hX hXm ⊢
  generalize F T = t at *
  constructor <;> omega
theorem run7 (a b c d e : ByteArray) : wpFn P TT noW head7 0 Go.Proofs.Try.f7 [.s a, .s b, .s c, .s d, .s e] [] fun v _ => v = .bo true := by
  rw [vc7]; simp only [wk_and]
  refine br_intro (fun _ => by trivial) (fun h1 => br_intro (fun _ => by trivial) (fun h2 => br_intro (fun _ => by trivial) (fun h3 => br_intro (fun _ => by trivial) (fun h4 => br_intro (fun _ => by trivial) (fun h5 => ?_)))))
  have h1 : (a.size : Int) ≤ 2000 := by simpa using h1
  have h2 : (b.size : Int) ≤ 2000 := by simpa using h2
  have h3 : (c.size : Int) ≤ 2000 := by simpa using h3
  have h4 : (d.size : Int) ≤ 2000 := by simpa using h4
  have h5 : (e.size : Int) ≤ 2000 := by simpa using h5
  rw [cutw (by omega), cutw (by omega), cutw (by omega), Int.toNat_natCast, Int.toNat_natCast, Int.toNat_natCast]
  have zA := cut_len a
  have zB := cut_len b
  have zC := cut_len c
  refine ⟨⟨by omega⟩, ⟨by omega⟩, ⟨by omega⟩, ?_⟩
  generalize a.extract 0 (a.size / 2 * 2) = A at zA ⊢
  generalize b.extract 0 (b.size / 2 * 2) = B at zB ⊢
  generalize c.extract 0 (c.size / 2 * 2) = C at zC ⊢
  have sA := size_len A
  have sB := size_len B
  have sC := size_len C
  have sd := size_len d
  refine ⟨fun k q => q.1 = A ∧ q.2.1 = B ∧ q.2.2.1 = C ∧ q.2.2.2.1 = d ∧ q.2.2.2.2.size ≤ 4000 ∧ k = C.size - q.2.2.2.2.size, C.size - e.size, ⟨rfl, rfl, rfl, rfl, by show e.size ≤ 4000; omega, rfl⟩, ?_⟩
  rintro ⟨A', B', C', d', x⟩ k ⟨e1, e2, e3, e4, hx, hk⟩
  obtain rfl : A' = A := e1
  obtain rfl : B' = B := e2
  obtain rfl : C' = C := e3
  obtain rfl : d' = d := e4
  simp only at hx hk ⊢
  refine br_intro (fun h => ?_) (fun h => ?_)
  · have h : (x.size : Int) < C'.size := by simpa using h
    have hs : (x ++ (⟨#[120]⟩ : ByteArray)).size = x.size + 1 := by rw [size_len, add_list, List.length_append, ← size_len]; rfl
    exact ⟨⟨by omega⟩, C'.size - (x.size + 1), ⟨by omega⟩, by trivial, by trivial, by trivial, by trivial, by omega, by rw [hs]⟩
  have h : (C'.size : Int) ≤ x.size := by simpa using h
  rw [Int.toNat_natCast]
  have zX : (x.extract 0 C'.size).size = C'.size := by rw [size_len, take_list, List.length_take, ← size_len]; omega
  refine ⟨⟨by omega⟩, ?_⟩
  generalize x.extract 0 C'.size = X at zX ⊢
  have sX := size_len X
  have tAB : (A' ++ B').size = A'.size + B'.size := by rw [size_len, add_list, List.length_append, ← size_len, ← size_len]
  have tC : (A' ++ B' ++ C').size = A'.size + B'.size + C'.size := by rw [size_len, add_list, List.length_append, ← size_len, ← size_len, tAB]
  have tX : (A' ++ B' ++ X).size = A'.size + B'.size + X.size := by rw [size_len, add_list, List.length_append, ← size_len, ← size_len, tAB]
  have tCd : (A' ++ B' ++ C' ++ d').size = A'.size + B'.size + C'.size + d'.size := by rw [size_len, add_list, List.length_append, ← size_len, ← size_len, tC]
  have tXd : (A' ++ B' ++ X ++ d').size = A'.size + B'.size + X.size + d'.size := by rw [size_len, add_list, List.length_append, ← size_len, ← size_len, tX]
  have zc : (A' ++ B' ++ C' ++ d').data.toList = A'.data.toList ++ (B'.data.toList ++ (C'.data.toList ++ d'.data.toList)) := by simp
  have zx : (A' ++ B' ++ X ++ d').data.toList = A'.data.toList ++ (B'.data.toList ++ (X.data.toList ++ d'.data.toList)) := by simp
  have eA : A'.data.toList.length % 2 = 0 := by omega
  have eB : B'.data.toList.length % 2 = 0 := by omega
  have eC : C'.data.toList.length % 2 = 0 := by omega
  have eX : X.data.toList.length % 2 = 0 := by omega
  have r0 := (ws_range false A'.data.toList true).1
  have r1 := (ws_range false B'.data.toList true).1
  have r2 := (ws_range false C'.data.toList true).1
  have r3 := (ws_range false d'.data.toList true).1
  have r4 := (ws_range false X.data.toList true).1
  have oO := Ov_range [A', B', C', d']
  have O : Ov [A', B', C', d'] = 65535 - F (ws false true A'.data.toList + ws false true B'.data.toList + ws false true C'.data.toList + ws false true d'.data.toList) := by
    unfold Ov; rw [cat4, ws_two _ _ eA, ws_two _ _ eB, ws_two _ _ eC]; congr 2; omega
  have hT := Tv_size oO
  have gone : ∀ {t : List AV} {h : Hp}, Wk 0 ⟨t, h⟩ ⟨reAs (posOf []) t, []⟩ := fun {t h} => Wk.rows [] List.nodup_nil rfl rfl rfl rfl
  refine ⟨[A', B', C', d'], ⟨rfl⟩, ⟨rfl⟩, ⟨ok5 (by simp) (by simp only [List.mem_cons, List.not_mem_nil, or_false, forall_eq_or_imp, forall_eq]; omega)⟩, fun q => q = (A', B', C', d', X, Ov [A', B', C', d']), ⟨⟨by omega⟩, ⟨by omega⟩, ⟨by omega⟩, ⟨show _ ≤ _ by omega⟩, br_intro (fun c1 => ?_) (fun _ => ⟨gone, rfl⟩)⟩, ?_⟩
  · have c1 : allz (A'.data.toList ++ (B'.data.toList ++ (C'.data.toList ++ d'.data.toList))) = false := by
      have c1 : Zv (A' ++ B' ++ C' ++ d') = false := by simpa using c1
      rw [← zc]; exact c1
    have hp := ws_pos _ true (allz_false c1)
    rw [ws_two _ _ eA, ws_two _ _ eB, ws_two _ _ eC] at hp
    refine ⟨⟨oO⟩, [A', Tv (Ov [A', B', C', d']), B', C', d'], ⟨rfl⟩, ⟨rfl⟩, ⟨ok5 (by simp) (by simp only [List.mem_cons, List.not_mem_nil, or_false, forall_eq_or_imp, forall_eq]; omega)⟩, ?_⟩
    have hm := F_mod (ws false true A'.data.toList + ws false true B'.data.toList + ws false true C'.data.toList + ws false true d'.data.toList) (by omega)
    have hr := F_range (ws false true A'.data.toList + ws false true B'.data.toList + ws false true C'.data.toList + ws false true d'.data.toList)
    have hR : Rv [A', Tv (Ov [A', B', C', d']), B', C', d'] = true := Rv_full (by
      rw [cat5, ws_two _ _ eA, ws_two _ _ (by rw [Tv_len oO]), ws_two _ _ eB, ws_two _ _ eC, Tv_ws oO, O]
      omega)
    rw [hR]
    exact ⟨gone, rfl⟩
  · rintro q rfl
    simp only
    have b2 := ws_both C'.data.toList eC
    have b2' := (ws_range true C'.data.toList true).1
    have hr := F_range (ws false true A'.data.toList + ws false true B'.data.toList + ws false true C'.data.toList + ws false true d'.data.toList)
    have hU : Uv (Ov [A', B', C', d']) C' X = 65535 - F (65535 - (65535 - F (ws false true A'.data.toList + ws false true B'.data.toList + ws false true C'.data.toList + ws false true d'.data.toList)) + (65535 * ((C'.data.toList.length : Int) / 2) - ws false true C'.data.toList) + ws false true X.data.toList) := by
      unfold Uv; rw [O, U_even _ _ _ (by omega) (by omega) eC]
    have K := fun hY => kept (ws false true A'.data.toList + ws false true B'.data.toList + ws false true C'.data.toList + ws false true d'.data.toList) (ws false true C'.data.toList) (ws false true X.data.toList) ((C'.data.toList.length : Int) / 2) (by omega) (by omega) r4 hY
    rw [← hU] at K
    have oN : rngW (Uv (Ov [A', B', C', d']) C' X) := U_range _ _ _
    have oN' := oN
    obtain ⟨n0, n1⟩ := oN'
    generalize Uv (Ov [A', B', C', d']) C' X = N at K oN n0 n1 ⊢
    have hTN := Tv_size oN
    refine ⟨⟨show _ ≤ _ by omega⟩, ⟨show _ ≤ _ by omega⟩, ?_⟩
    rw [decide_eq_false (by omega : ¬ N < 0), decide_eq_false (by omega : ¬ N > 65535), br_false, br_false]
    refine ⟨⟨by omega⟩, ⟨by omega⟩, ⟨by omega⟩, ⟨show _ ≤ _ by omega⟩, br_intro (fun _ => by trivial) (fun c2 => ?_)⟩
    have c2 : allz (A'.data.toList ++ (B'.data.toList ++ (X.data.toList ++ d'.data.toList))) = false := by rw [← zx]; exact c2
    have hp := ws_pos _ true (allz_false c2)
    rw [ws_two _ _ eA, ws_two _ _ eB, ws_two _ _ eX] at hp
    refine ⟨⟨oN⟩, [A', Tv N, B', X, d'], ⟨rfl⟩, ⟨rfl⟩, ⟨ok5 (by simp) (by simp only [List.mem_cons, List.not_mem_nil, or_false, forall_eq_or_imp, forall_eq]; omega)⟩, ?_⟩
    have K' := K (by omega)
    rw [Rv_full (l := [A', Tv N, B', X, d']) (by
      rw [cat5, ws_two _ _ eA, ws_two _ _ (by rw [Tv_len oN]), ws_two _ _ eB, ws_two _ _ eX, Tv_ws oN]
      omega)]
/-! SumOf -/
def mins (l : List ByteArray) : Nat := (l.map fun s => min s.size 70001).sum
theorem mins_take {l : List ByteArray} {i : Nat} (hi : i < l.length) : mins (l.take (i + 1)) = mins (l.take i) + min l[i].size 70001 := by
  rw [← List.take_append_getElem hi]
  simp only [mins, List.map_append, List.sum_append, List.map_cons, List.map_nil, List.sum_cons, List.sum_nil]; omega
theorem mins_le : ∀ (l : List ByteArray), mins l ≤ 70001 * l.length
  | [] => by simp [mins]
  | x :: l => by
    have := mins_le l
    simp only [mins, List.map_cons, List.sum_cons, List.length_cons] at this ⊢
    rw [Nat.mul_succ]; omega
theorem mins_cat : ∀ {l : List ByteArray}, mins l ≤ 70000 → (cat l).length = mins l
  | [], _ => by simp [mins, cat]
  | x :: l, h => by
    have h1 : mins (x :: l) = min x.size 70001 + mins l := by simp [mins]
    have h2 := mins_cat (l := l) (by omega)
    have : cat (x :: l) = x.data.toList ++ cat l := by simp [cat]
    rw [this, List.length_append, ← size_len, h2]; omega
def glue (l : List ByteArray) : ByteArray := ⟨(cat l).toArray⟩
theorem glue_list (l : List ByteArray) : (glue l).data.toList = cat l := by simp [glue]
theorem glue_size (l : List ByteArray) : (glue l).size = (cat l).length := by rw [size_len, glue_list]
theorem glue_take {l : List ByteArray} {i : Nat} (hi : i < l.length) : glue (l.take i) ++ l[i] = glue (l.take (i + 1)) := by
  apply ByteArray.ext
  apply Array.toList_inj.1
  rw [add_list, glue_list, glue_list, cat_take hi]
theorem Qv_glue {l : List ByteArray} : Qv (glue l) = Ov l := by
  unfold Qv Ov Wv
  rw [isum_words _ (padl_even _), ws_pad, glue_list]
theorem run3R {R : AV → Hp → Prop} (hR : ∀ h, R (.bo true) h) {off len : Nat} {cap : Option Nat} {c : List AV} {l : List ByteArray} (hc : (c.drop off).take len = l.map .s) (hl : l.length = len) :
    wpFn P TT noW (head3 (.sl 0 off len 1 cap) [.cells c false]) 0 Go.Proofs.Try.f3 [.sl 0 off len 1 cap] [.cells c false] R := by
  rw [vc3]; simp only [wk_and]
  have out : ∀ (x : Int) (i : Nat), x = (mins (l.take i) : Int) → (20 < i ∨ len ≤ i) → i ≤ len →
      br (decide ((len : Int) > 20)) (R (AV.bo true) [.cells c false]) (br (decide (x > 70000)) (R (AV.bo true) [.cells c false]) (∃ (I : Nat → ByteArray × Int → Prop), ∃ (n : Nat), I n (⟨#[]⟩, 0) ∧ ∀ (a : ByteArray × Int) (n : Nat), I n a →
        br (decide (a.2 < (len : Int))) (Holds (0 ≤ a.2 ∧ a.2 < (len : Int)) ∧ ∃ (s : ByteArray), Holds (c[off + Int.toNat a.2 * 1]? = some (AV.s s)) ∧ Holds (a.1.size + s.size ≤ 9223372036854775807) ∧ ∃ (m : Nat), Holds (m < n) ∧ I m (a.1 ++ s, IntKind.wrap IntKind.i64 (a.2 + 1)))
          (∃ (l : List ByteArray), Holds (List.take len (List.drop off c) = List.map AV.s l) ∧ Holds (List.length l = len) ∧ Holds (okL l) ∧ Holds (smallS a.1) ∧ br (Ov l == Qv a.1) (∃ (l : List ByteArray), Holds (List.take len (List.drop off c) = List.map AV.s l) ∧ Holds (List.length l = len) ∧ Holds (okL l) ∧ Holds (smallS a.1) ∧ R (AV.bo (Rv l == (Qv a.1 == 0))) [.cells c false]) (R (AV.bo false) [.cells c false])))) := by
    intro x i hx hi hil
    refine br_intro (fun _ => hR _) (fun h20 => br_intro (fun _ => hR _) (fun hn => ?_))
    have h20 : (len : Int) ≤ 20 := by simpa using h20
    have hn : x ≤ 70000 := by simpa using hn
    obtain rfl : i = len := by omega
    have hli : l.take i = l := List.take_of_length_le (by omega)
    rw [hli] at hx
    have hcat := mins_cat (l := l) (by omega)
    refine ⟨fun k q => ∃ j : Nat, q = (glue (l.take j), (j : Int)) ∧ j + k = i, i, ⟨0, rfl, by omega⟩, ?_⟩
    rintro q k ⟨j, rfl, hk⟩
    simp only
    refine br_intro (fun h => ?_) (fun h => ?_)
    · have h : (j : Int) < i := by simpa using h
      have hj : j < l.length := by omega
      have hle := cat_le (l := l) (j + 1)
      rw [cat_take hj, List.length_append, ← size_len] at hle
      refine ⟨⟨by omega, h⟩, l[j], ⟨by rw [Int.toNat_natCast, Nat.mul_one]; exact cell_of hc hl hj⟩, ⟨by rw [glue_size]; omega⟩, k - 1, ⟨by omega⟩, j + 1, ?_, by omega⟩
      rw [glue_take hj, i64w (by omega) (by omega)]; rfl
    · have h : (i : Int) ≤ j := by simpa using h
      have hlj : l.take j = l := List.take_of_length_le (by omega)
      rw [hlj]
      have okl : okL l := ⟨by omega, by omega⟩
      have sg : smallS (glue l) := show _ ≤ _ by rw [glue_size]; omega
      refine ⟨l, ⟨hc⟩, ⟨hl⟩, ⟨okl⟩, ⟨sg⟩, ?_⟩
      rw [Qv_glue, beq_self_eq_true, br_true]
      exact ⟨l, ⟨hc⟩, ⟨hl⟩, ⟨okl⟩, ⟨sg⟩, by unfold Rv; rw [beq_self_eq_true]; exact hR _⟩
  refine ⟨fun k q => ∃ i : Nat, q = ((mins (l.take i) : Int), (i : Int)) ∧ i + k = len ∧ i ≤ 21, len, ⟨0, rfl, by omega, by omega⟩, ?_⟩
  rintro q k ⟨i, rfl, hk, h21⟩
  simp only
  refine br_intro (fun h => br_intro (fun h' => ?_) (fun h' => ?_)) (fun h => ?_)
  · have h : (i : Int) < len := by simpa using h
    have h' : (i : Int) ≤ 20 := by simpa using h'
    have hi : i < l.length := by omega
    have hm := mins_le (l.take i)
    rw [List.length_take] at hm
    refine ⟨⟨by omega, h⟩, l[i], ⟨by rw [Int.toNat_natCast, Nat.mul_one]; exact cell_of hc hl hi⟩, k - 1, ⟨by omega⟩, i + 1, ?_, by omega, by omega⟩
    have e : (if (70001 : Int) < (l[i].size : Int) then (70001 : Int) else (l[i].size : Int)) = ((min l[i].size 70001 : Nat) : Int) := by split <;> omega
    rw [e, i64w (by omega) (by omega), i64w (by omega) (by omega), mins_take hi]
    refine Prod.ext ?_ ?_ <;> simp only <;> omega
  · have h' : ¬ (i : Int) ≤ 20 := by simpa using h'
    exact out _ i rfl (by omega) (by omega)
  · have h : (len : Int) ≤ i := by simpa using h
    exact out _ i rfl (by omega) (by omega)
theorem run3 {off len : Nat} {cap : Option Nat} {c : List AV} {l : List ByteArray} (hc : (c.drop off).take len = l.map .s) (hl : l.length = len) :
    wpFn P TT noW (head3 (.sl 0 off len 1 cap) [.cells c false]) 0 Go.Proofs.Try.f3 [.sl 0 off len 1 cap] [.cells c false] fun v _ => v = .bo true := run3R (fun _ => rfl) hc hl
theorem run3n : wpFn P TT noW (head3 .sn []) 0 Go.Proofs.Try.f3 [.sn] [] fun v _ => v = .bo true := by
  rw [vc3n]; simp only [wk_and]
  refine ⟨fun k q => q = (0, 0), 0, rfl, ?_⟩
  rintro q k rfl
  refine ⟨fun k q => q = (⟨#[]⟩, 0), 0, rfl, ?_⟩
  rintro q k rfl
  have okl : okL [] := by simp [okL, cat]
  have sg : smallS ⟨#[]⟩ := show (0 : Nat) ≤ _ by omega
  have hq : Qv ⟨#[]⟩ = Ov [] := rfl
  refine ⟨⟨okl⟩, ⟨sg⟩, ?_⟩
  rw [hq, beq_self_eq_true, br_true]
  exact ⟨⟨okl⟩, ⟨sg⟩, by unfold Rv; rw [beq_self_eq_true]⟩
end Go.Proofs.Ytjekkpnmpcpgaaa.SumRun
