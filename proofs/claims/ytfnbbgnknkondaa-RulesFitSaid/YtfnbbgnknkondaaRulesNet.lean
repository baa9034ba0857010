/- Nets, and addresses in them. -/
import Derived.Test.YtfnbbgnknkondaaRulesUtil
set_option linter.unusedVariables false
set_option linter.unusedSimpArgs false
open Go Go.Proofs.Ytfnbbgnknkondaa.Eng Go.RowKit
namespace Go.Proofs.Ytfnbbgnknkondaa.RulesRun
/-- A bit of a text; is it any net? is it a net? -/
def tbit (B : ByteArray → Int → Int) (args : List AV) (h : Hp) (K : AV → Hp → Prop) : Prop := match args with
  | [.s s, .i .i64 i] => Holds (0 ≤ i ∧ i < 8 * s.size ∧ s.size ≤ 16) ∧ K (.i .u8 (B s i)) h
  | _ => False
def tnetS (N : ByteArray → Int → Bool) (args : List AV) (h : Hp) (K : AV → Hp → Prop) : Prop := match args with
  | [.ag [.s s, .i .i64 n]] => ∀ b : Bool, Holds (N s n = b) → K (.bo b) h
  | _ => False
def head26 (s : ByteArray) (n : Int) : Nat → Option Head := fun r => match r with
  | 1005 => some (Head.one Get.none fun _ => ⟨[.bad, .p 0 0] ++ bads 43, [.cells [.s s, .i .i64 n] true]⟩)
  | 6 => some (Head.one (Get.int 3) fun q => ⟨[.bad, .p 0 0, .bad, .i .i64 q] ++ bads 41, [.cells [.s s, .i .i64 n] true]⟩)
  | _ => none
def head12 (s : ByteArray) (n : Int) (a : ByteArray) : Nat → Option Head := fun r => match r with
  | 1003 => some (Head.one Get.none fun _ => ⟨[.bad, .s a, .p 0 0] ++ bads 38, [.cells [.s s, .i .i64 n] true]⟩)
  | 8 => some (Head.one (Get.int 29) fun q => ⟨[.bad, .s a, .p 0 0] ++ bads 25 ++ [.i .i64 n, .i .i64 q] ++ bads 11, [.cells [.s s, .i .i64 n] true]⟩)
  | _ => none
noncomputable abbrev T12 (B : ByteArray → Int → Int) (A N : ByteArray → Int → Bool) : TEnv := tcons 26 (tnetS N) (tcons 27 (tnetS A) (tcons 28 (tbit B) tnil))
theorem vc28 (s : ByteArray) (i : Int) (R : AV → Hp → Prop) : (wpFn P tnil noW noL 0 Go.Proofs.Try.f28 [.s s, .i .i64 i] [] R) = (Holds ((0 : Int) ≤ IntKind.wrap IntKind.i64 (Int.tdiv i (8 : Int))) ∧ ∃ (b : UInt8), Holds (s[Int.toNat (IntKind.wrap IntKind.i64 (Int.tdiv i (8 : Int)))]? = some b) ∧ Holds ((0 : Int) ≤ IntKind.wrap IntKind.i64 ((7 : Int) - Int.tmod i (8 : Int))) ∧ R (AV.i IntKind.u8 (bits BinOp.and IntKind.u8 (Int.fdiv (↑(UInt8.toNat b) : Int) ((2 : Int) ^ min (Int.toNat (IntKind.wrap IntKind.i64 ((7 : Int) - Int.tmod i (8 : Int)))) (IntKind.bits IntKind.u8))) (1 : Int))) []) := by kernel_rfl
theorem vc27 (s : ByteArray) (n : Int) (R : AV → Hp → Prop) : (wpFn P tnil noW noL 0 Go.Proofs.Try.f27 [.ag [.s s, .i .i64 n]] [] R) = (∃ (s_1 : ByteArray), Holds ([AV.s s, AV.i IntKind.i64 n][(0 : Nat)]? = some (AV.s s_1)) ∧ br (ByteArray.toList s_1 == ByteArray.toList (⟨#[]⟩ : ByteArray)) (∃ (n_1 : Int), Holds ([AV.s s, AV.i IntKind.i64 n][(1 : Nat)]? = some (AV.i IntKind.i64 n_1)) ∧ R (AV.bo (n_1 == (0 : Int))) [Blk.cells [AV.s s, AV.i IntKind.i64 n] true]) (R (AV.bo false) [Blk.cells [AV.s s, AV.i IntKind.i64 n] true])) := by kernel_rfl
theorem vc26 (B : ByteArray → Int → Int) (A : ByteArray → Int → Bool) (s : ByteArray) (n : Int) (R : AV → Hp → Prop) : (wpFn P (tcons 27 (tnetS A) (tcons 28 (tbit B) tnil)) noW (head26 s n) 0 Go.Proofs.Try.f26 [.ag [.s s, .i .i64 n]] [] R) = (∃ (s_1 : ByteArray), ∃ (n_1 : Int), Holds ([AV.s s, AV.i IntKind.i64 n] = [AV.s s_1, AV.i IntKind.i64 n_1]) ∧ ∀ (b : Bool), Holds (A s_1 n_1 = b) → br b (R (AV.bo true) [Blk.cells [AV.s s, AV.i IntKind.i64 n] true]) (∃ (J : Bool → Prop), (∃ (s_2 : ByteArray), Holds ([AV.s s, AV.i IntKind.i64 n][(0 : Nat)]? = some (AV.s s_2)) ∧ br ((↑(ByteArray.size s_2) : Int) != (4 : Int)) (∃ (s_3 : ByteArray), Holds ([AV.s s, AV.i IntKind.i64 n][(0 : Nat)]? = some (AV.s s_3)) ∧ br ((↑(ByteArray.size s_3) : Int) != (16 : Int)) (R (AV.bo false) [Blk.cells [AV.s s, AV.i IntKind.i64 n] true]) (∃ (n_2 : Int), Holds ([AV.s s, AV.i IntKind.i64 n][(1 : Nat)]? = some (AV.i IntKind.i64 n_2)) ∧ br (decide (n_2 < (0 : Int))) (R (AV.bo false) [Blk.cells [AV.s s, AV.i IntKind.i64 n] true]) (∃ (n_3 : Int), Holds ([AV.s s, AV.i IntKind.i64 n][(1 : Nat)]? = some (AV.i IntKind.i64 n_3)) ∧ ∃ (s_4 : ByteArray), Holds ([AV.s s, AV.i IntKind.i64 n][(0 : Nat)]? = some (AV.s s_4)) ∧ br (decide (n_3 > IntKind.wrap IntKind.i64 ((8 : Int) * (↑(ByteArray.size s_4) : Int)))) (R (AV.bo false) [Blk.cells [AV.s s, AV.i IntKind.i64 n] true]) (Wk (0 : Nat) { t := [.bad, AV.p (0 : Nat) (0 : Nat), .bad, .bad, .bad, .bad, .bad, .bad, .bad, .bad, .bad, .bad, .bad, .bad, .bad, .bad, .bad, .bad, .bad, .bad, .bad, .bad, .bad, .bad, .bad, .bad, .bad, .bad, .bad, .bad, .bad, .bad, .bad, .bad, .bad, .bad, .bad, .bad, .bad, .bad, .bad, .bad, .bad, .bad, .bad], h := [Blk.cells [AV.s s, AV.i IntKind.i64 n] true] } { t := [.bad, AV.p (0 : Nat) (0 : Nat), .bad, .bad, .bad, .bad, .bad, .bad, .bad, .bad, .bad, .bad, .bad, .bad, .bad, .bad, .bad, .bad, .bad, .bad, .bad, .bad, .bad, .bad, .bad, .bad, .bad, .bad, .bad, .bad, .bad, .bad, .bad, .bad, .bad, .bad, .bad, .bad, .bad, .bad, .bad, .bad, .bad, .bad, .bad], h := [Blk.cells [AV.s s, AV.i IntKind.i64 n] true] } ∧ J true)))) (∃ (n_2 : Int), Holds ([AV.s s, AV.i IntKind.i64 n][(1 : Nat)]? = some (AV.i IntKind.i64 n_2)) ∧ br (decide (n_2 < (0 : Int))) (R (AV.bo false) [Blk.cells [AV.s s, AV.i IntKind.i64 n] true]) (∃ (n_3 : Int), Holds ([AV.s s, AV.i IntKind.i64 n][(1 : Nat)]? = some (AV.i IntKind.i64 n_3)) ∧ ∃ (s_3 : ByteArray), Holds ([AV.s s, AV.i IntKind.i64 n][(0 : Nat)]? = some (AV.s s_3)) ∧ br (decide (n_3 > IntKind.wrap IntKind.i64 ((8 : Int) * (↑(ByteArray.size s_3) : Int)))) (R (AV.bo false) [Blk.cells [AV.s s, AV.i IntKind.i64 n] true]) (Wk (0 : Nat) { t := [.bad, AV.p (0 : Nat) (0 : Nat), .bad, .bad, .bad, .bad, .bad, .bad, .bad, .bad, .bad, .bad, .bad, .bad, .bad, .bad, .bad, .bad, .bad, .bad, .bad, .bad, .bad, .bad, .bad, .bad, .bad, .bad, .bad, .bad, .bad, .bad, .bad, .bad, .bad, .bad, .bad, .bad, .bad, .bad, .bad, .bad, .bad, .bad, .bad], h := [Blk.cells [AV.s s, AV.i IntKind.i64 n] true] } { t := [.bad, AV.p (0 : Nat) (0 : Nat), .bad, .bad, .bad, .bad, .bad, .bad, .bad, .bad, .bad, .bad, .bad, .bad, .bad, .bad, .bad, .bad, .bad, .bad, .bad, .bad, .bad, .bad, .bad, .bad, .bad, .bad, .bad, .bad, .bad, .bad, .bad, .bad, .bad, .bad, .bad, .bad, .bad, .bad, .bad, .bad, .bad, .bad, .bad], h := [Blk.cells [AV.s s, AV.i IntKind.i64 n] true] } ∧ J true)))) ∧ ∀ (a : Bool), J a → ∃ (n_2 : Int), Holds ([AV.s s, AV.i IntKind.i64 n][(1 : Nat)]? = some (AV.i IntKind.i64 n_2)) ∧ Wk (0 : Nat) { t := [.bad, AV.p (0 : Nat) (0 : Nat), .bad, AV.i IntKind.i64 n_2, .bad, .bad, .bad, .bad, .bad, .bad, .bad, .bad, .bad, .bad, .bad, .bad, .bad, .bad, .bad, .bad, .bad, .bad, .bad, .bad, .bad, .bad, .bad, .bad, .bad, .bad, .bad, .bad, .bad, .bad, .bad, .bad, .bad, .bad, .bad, .bad, .bad, .bad, .bad, .bad, .bad], h := [Blk.cells [AV.s s, AV.i IntKind.i64 n] true] } { t := [.bad, AV.p (0 : Nat) (0 : Nat), .bad, AV.i IntKind.i64 n_2, .bad, .bad, .bad, .bad, .bad, .bad, .bad, .bad, .bad, .bad, .bad, .bad, .bad, .bad, .bad, .bad, .bad, .bad, .bad, .bad, .bad, .bad, .bad, .bad, .bad, .bad, .bad, .bad, .bad, .bad, .bad, .bad, .bad, .bad, .bad, .bad, .bad, .bad, .bad, .bad, .bad], h := [Blk.cells [AV.s s, AV.i IntKind.i64 n] true] } ∧ ∃ (I : Nat → Int → Prop), ∃ (n_3 : Nat), I n_3 n_2 ∧ ∀ (a : Int) (n_4 : Nat), I n_4 a → ∃ (s_2 : ByteArray), Holds ([AV.s s, AV.i IntKind.i64 n][(0 : Nat)]? = some (AV.s s_2)) ∧ br (decide (a < IntKind.wrap IntKind.i64 ((8 : Int) * (↑(ByteArray.size s_2) : Int)))) (∃ (s_3 : ByteArray), Holds ([AV.s s, AV.i IntKind.i64 n][(0 : Nat)]? = some (AV.s s_3)) ∧ Holds ((0 : Int) ≤ a ∧ a < (8 : Int) * (↑(ByteArray.size s_3) : Int) ∧ ByteArray.size s_3 ≤ (16 : Nat)) ∧ br (B s_3 a != (0 : Int)) (R (AV.bo false) [Blk.cells [AV.s s, AV.i IntKind.i64 n] true]) (Wk (0 : Nat) { t := [.bad, AV.p (0 : Nat) (0 : Nat), .bad, AV.i IntKind.i64 (IntKind.wrap IntKind.i64 (a + (1 : Int))), .bad, .bad, .bad, .bad, .bad, .bad, .bad, .bad, .bad, .bad, .bad, .bad, .bad, .bad, .bad, .bad, .bad, .bad, .bad, .bad, .bad, .bad, .bad, .bad, .bad, .bad, .bad, .bad, .bad, .bad, .bad, .bad, .bad, .bad, .bad, .bad, .bad, .bad, .bad, .bad, .bad], h := [Blk.cells [AV.s s, AV.i IntKind.i64 n] true] } { t := [.bad, AV.p (0 : Nat) (0 : Nat), .bad, AV.i IntKind.i64 (IntKind.wrap IntKind.i64 (a + (1 : Int))), .bad, .bad, .bad, .bad, .bad, .bad, .bad, .bad, .bad, .bad, .bad, .bad, .bad, .bad, .bad, .bad, .bad, .bad, .bad, .bad, .bad, .bad, .bad, .bad, .bad, .bad, .bad, .bad, .bad, .bad, .bad, .bad, .bad, .bad, .bad, .bad, .bad, .bad, .bad, .bad, .bad], h := [Blk.cells [AV.s s, AV.i IntKind.i64 n] true] } ∧ ∃ (m : Nat), Holds (m < n_4) ∧ I m (IntKind.wrap IntKind.i64 (a + (1 : Int))))) (R (AV.bo true) [Blk.cells [AV.s s, AV.i IntKind.i64 n] true]))) := by kernel_rfl
theorem vc12 (B : ByteArray → Int → Int) (A N : ByteArray → Int → Bool) (s : ByteArray) (n : Int) (a : ByteArray) (R : AV → Hp → Prop) : (wpFn P (T12 B A N) noW (head12 s n a) 0 Go.Proofs.Try.f12 [.ag [.s s, .i .i64 n], .s a] [] R) = (∃ (J : Bool → Prop), (∃ (s_1 : ByteArray), ∃ (n_1 : Int), Holds ([AV.s s, AV.i IntKind.i64 n] = [AV.s s_1, AV.i IntKind.i64 n_1]) ∧ ∀ (b : Bool), Holds (N s_1 n_1 = b) → br (!b) (R (AV.bo false) [Blk.cells [AV.s s, AV.i IntKind.i64 n] true]) (br ((↑(ByteArray.size a) : Int) != (4 : Int)) (br ((↑(ByteArray.size a) : Int) != (16 : Int)) (R (AV.bo false) [Blk.cells [AV.s s, AV.i IntKind.i64 n] true]) (Wk (0 : Nat) { t := [.bad, AV.s a, AV.p (0 : Nat) (0 : Nat), .bad, .bad, .bad, .bad, .bad, .bad, .bad, .bad, .bad, .bad, .bad, .bad, .bad, .bad, .bad, .bad, .bad, .bad, .bad, .bad, .bad, .bad, .bad, .bad, .bad, .bad, .bad, .bad, .bad, .bad, .bad, .bad, .bad, .bad, .bad, .bad, .bad, .bad], h := [Blk.cells [AV.s s, AV.i IntKind.i64 n] true] } { t := [.bad, AV.s a, AV.p (0 : Nat) (0 : Nat), .bad, .bad, .bad, .bad, .bad, .bad, .bad, .bad, .bad, .bad, .bad, .bad, .bad, .bad, .bad, .bad, .bad, .bad, .bad, .bad, .bad, .bad, .bad, .bad, .bad, .bad, .bad, .bad, .bad, .bad, .bad, .bad, .bad, .bad, .bad, .bad, .bad, .bad], h := [Blk.cells [AV.s s, AV.i IntKind.i64 n] true] } ∧ J true)) (Wk (0 : Nat) { t := [.bad, AV.s a, AV.p (0 : Nat) (0 : Nat), .bad, .bad, .bad, .bad, .bad, .bad, .bad, .bad, .bad, .bad, .bad, .bad, .bad, .bad, .bad, .bad, .bad, .bad, .bad, .bad, .bad, .bad, .bad, .bad, .bad, .bad, .bad, .bad, .bad, .bad, .bad, .bad, .bad, .bad, .bad, .bad, .bad, .bad], h := [Blk.cells [AV.s s, AV.i IntKind.i64 n] true] } { t := [.bad, AV.s a, AV.p (0 : Nat) (0 : Nat), .bad, .bad, .bad, .bad, .bad, .bad, .bad, .bad, .bad, .bad, .bad, .bad, .bad, .bad, .bad, .bad, .bad, .bad, .bad, .bad, .bad, .bad, .bad, .bad, .bad, .bad, .bad, .bad, .bad, .bad, .bad, .bad, .bad, .bad, .bad, .bad, .bad, .bad], h := [Blk.cells [AV.s s, AV.i IntKind.i64 n] true] } ∧ J true))) ∧ ∀ (a_1 : Bool), J a_1 → ∃ (s_1 : ByteArray), ∃ (n_1 : Int), Holds ([AV.s s, AV.i IntKind.i64 n] = [AV.s s_1, AV.i IntKind.i64 n_1]) ∧ ∀ (b : Bool), Holds (A s_1 n_1 = b) → br b (R (AV.bo true) [Blk.cells [AV.s s, AV.i IntKind.i64 n] true]) (∃ (s_2 : ByteArray), Holds ([AV.s s, AV.i IntKind.i64 n][(0 : Nat)]? = some (AV.s s_2)) ∧ br ((↑(ByteArray.size a) : Int) != (↑(ByteArray.size s_2) : Int)) (R (AV.bo false) [Blk.cells [AV.s s, AV.i IntKind.i64 n] true]) (∃ (n_2 : Int), Holds ([AV.s s, AV.i IntKind.i64 n][(1 : Nat)]? = some (AV.i IntKind.i64 n_2)) ∧ Wk (0 : Nat) { t := [.bad, AV.s a, AV.p (0 : Nat) (0 : Nat), .bad, .bad, .bad, .bad, .bad, .bad, .bad, .bad, .bad, .bad, .bad, .bad, .bad, .bad, .bad, .bad, .bad, .bad, .bad, .bad, .bad, .bad, .bad, .bad, .bad, AV.i IntKind.i64 n_2, AV.i IntKind.i64 (0 : Int), .bad, .bad, .bad, .bad, .bad, .bad, .bad, .bad, .bad, .bad, .bad], h := [Blk.cells [AV.s s, AV.i IntKind.i64 n] true] } { t := [.bad, AV.s a, AV.p (0 : Nat) (0 : Nat), .bad, .bad, .bad, .bad, .bad, .bad, .bad, .bad, .bad, .bad, .bad, .bad, .bad, .bad, .bad, .bad, .bad, .bad, .bad, .bad, .bad, .bad, .bad, .bad, .bad, AV.i IntKind.i64 n, AV.i IntKind.i64 (0 : Int), .bad, .bad, .bad, .bad, .bad, .bad, .bad, .bad, .bad, .bad, .bad], h := [Blk.cells [AV.s s, AV.i IntKind.i64 n] true] } ∧ ∃ (I : Nat → Int → Prop), ∃ (n_3 : Nat), I n_3 (0 : Int) ∧ ∀ (a_4 : Int) (n_4 : Nat), I n_4 a_4 → br (decide (a_4 < n)) (∃ (s_3 : ByteArray), Holds ([AV.s s, AV.i IntKind.i64 n][(0 : Nat)]? = some (AV.s s_3)) ∧ Holds ((0 : Int) ≤ a_4 ∧ a_4 < (8 : Int) * (↑(ByteArray.size s_3) : Int) ∧ ByteArray.size s_3 ≤ (16 : Nat)) ∧ Holds ((0 : Int) ≤ a_4 ∧ a_4 < (8 : Int) * (↑(ByteArray.size a) : Int) ∧ ByteArray.size a ≤ (16 : Nat)) ∧ br (B s_3 a_4 != B a a_4) (R (AV.bo false) [Blk.cells [AV.s s, AV.i IntKind.i64 n] true]) (Wk (0 : Nat) { t := [.bad, AV.s a, AV.p (0 : Nat) (0 : Nat), .bad, .bad, .bad, .bad, .bad, .bad, .bad, .bad, .bad, .bad, .bad, .bad, .bad, .bad, .bad, .bad, .bad, .bad, .bad, .bad, .bad, .bad, .bad, .bad, .bad, AV.i IntKind.i64 n, AV.i IntKind.i64 (IntKind.wrap IntKind.i64 (a_4 + (1 : Int))), .bad, .bad, .bad, .bad, .bad, .bad, .bad, .bad, .bad, .bad, .bad], h := [Blk.cells [AV.s s, AV.i IntKind.i64 n] true] } { t := [.bad, AV.s a, AV.p (0 : Nat) (0 : Nat), .bad, .bad, .bad, .bad, .bad, .bad, .bad, .bad, .bad, .bad, .bad, .bad, .bad, .bad, .bad, .bad, .bad, .bad, .bad, .bad, .bad, .bad, .bad, .bad, .bad, AV.i IntKind.i64 n, AV.i IntKind.i64 (IntKind.wrap IntKind.i64 (a_4 + (1 : Int))), .bad, .bad, .bad, .bad, .bad, .bad, .bad, .bad, .bad, .bad, .bad], h := [Blk.cells [AV.s s, AV.i IntKind.i64 n] true] } ∧ ∃ (m : Nat), Holds (m < n_4) ∧ I m (IntKind.wrap IntKind.i64 (a_4 + (1 : Int))))) (R (AV.bo true) [Blk.cells [AV.s s, AV.i IntKind.i64 n] true])))) := by kernel_rfl
def byteAt (s : ByteArray) (j : Nat) : Nat := (s.data.toList.getD j 0).toNat
theorem byteAt_lt (s : ByteArray) (j : Nat) : byteAt s j < 256 := (s.data.toList.getD j 0).toNat_lt
def bitS (s : ByteArray) (i : Int) : Int := ((byteAt s (i.toNat / 8) / 2 ^ (7 - i.toNat % 8) % 2 : Nat) : Int)
def anyB (s : ByteArray) (n : Int) : Bool := s.size == 0 && n == 0
def netB (s : ByteArray) (n : Int) : Bool := anyB s n || ((s.size == 4 || s.size == 16) && (decide (0 ≤ n ∧ n ≤ 8 * s.size) && (List.range (8 * s.size)).all fun j => decide (n ≤ (j : Int) → bitS s j = 0)))
def inB (s : ByteArray) (n : Int) (a : ByteArray) : Bool := netB s n && ((a.size == 4 || a.size == 16) && (anyB s n || (a.size == s.size && (List.range n.toNat).all fun j => bitS s j == bitS a j)))
def andOk (x k : Nat) : Bool := decide (Go.bits .and .u8 (Int.fdiv (x : Int) (2 ^ k)) 1 = ((x / 2 ^ k % 2 : Nat) : Int))
set_option maxRecDepth 10000000 in
theorem andAll : ((List.range 256).all fun x => (List.range 8).all fun k => andOk x k) = true := by kernel_rfl
theorem and_one {x k : Nat} (hx : x < 256) (hk : k < 8) : Go.bits .and .u8 (Int.fdiv (x : Int) (2 ^ k)) 1 = ((x / 2 ^ k % 2 : Nat) : Int) := by
  have a := List.all_eq_true.1 andAll x (List.mem_range.2 hx)
  have b := List.all_eq_true.1 a k (List.mem_range.2 hk)
  exact of_decide_eq_true b
set_option maxRecDepth 100000 in
theorem run28 {s : ByteArray} {i : Int} (h0 : 0 ≤ i) (h1 : i < 8 * s.size) (h2 : s.size ≤ 16) : wpFn P tnil noW noL 0 Go.Proofs.Try.f28 [.s s, .i .i64 i] [] fun v _ => v = .i .u8 (bitS s i) := by
  obtain ⟨k, rfl⟩ : ∃ k : Nat, i = k := ⟨i.toNat, by omega⟩
  have e8 : IntKind.wrap .i64 (Int.tdiv (k : Int) 8) = ((k / 8 : Nat) : Int) := by
    rw [Int.tdiv_eq_ediv_of_nonneg (Int.natCast_nonneg _), i64w (by omega) (by omega)]; omega
  have em : IntKind.wrap .i64 (7 - Int.tmod (k : Int) 8) = ((7 - k % 8 : Nat) : Int) := by
    rw [Int.tmod_eq_emod_of_nonneg (Int.natCast_nonneg _), i64w (by omega) (by omega)]; omega
  have hlt : k / 8 < s.data.toList.length := by rw [size_list]; omega
  have emin : min (Int.toNat ((7 - k % 8 : Nat) : Int)) (IntKind.bits .u8) = 7 - k % 8 := by
    rw [Int.toNat_natCast, show IntKind.bits .u8 = 8 from rfl]; omega
  rw [vc28, e8, em, emin]
  refine ⟨⟨Int.natCast_nonneg _⟩, s.data.toList[k / 8], ⟨by rw [Int.toNat_natCast, bget, List.getElem?_eq_getElem hlt]⟩, ⟨Int.natCast_nonneg _⟩, ?_⟩
  rw [and_one (UInt8.toNat_lt _) (by omega)]
  unfold bitS byteAt
  rw [Int.toNat_natCast, List.getD_eq_getElem?_getD, List.getElem?_eq_getElem hlt]
  rfl
theorem run27 (s : ByteArray) (n : Int) : wpFn P tnil noW noL 0 Go.Proofs.Try.f27 [.ag [.s s, .i .i64 n]] [] fun v _ => v = .bo (anyB s n) := by
  rw [vc27]
  have e : (ByteArray.toList s == ByteArray.toList (⟨#[]⟩ : ByteArray)) = (s.size == 0) := by
    rw [list_beq, Bool.eq_iff_iff, beq_iff_eq, decide_eq_true_eq, size_zero]
  refine ⟨s, ⟨rfl⟩, br_intro (fun h => ⟨n, ⟨rfl⟩, ?_⟩) (fun h => ?_)⟩
  · rw [e] at h
    rw [anyB, h, Bool.true_and]
  · rw [e] at h
    rw [anyB, h, Bool.false_and]
theorem run26 (s : ByteArray) (n : Int) : Holds (wpFn P (tcons 27 (tnetS anyB) (tcons 28 (tbit bitS) tnil)) noW (head26 s n) 0 Go.Proofs.Try.f26 [.ag [.s s, .i .i64 n]] [] fun v _ => v = .bo (netB s n)) := by
  refine ⟨?_⟩
  rw [vc26]
  refine ⟨s, n, ⟨rfl⟩, ?_⟩
  rintro b ⟨hb⟩
  unfold netB
  rw [hb]
  refine br_intro (fun h => by rw [h, Bool.true_or]) (fun h => ?_)
  rw [h, Bool.false_or]
  refine ⟨fun _ => (s.size = 4 ∨ s.size = 16) ∧ 0 ≤ n ∧ n ≤ 8 * s.size, ?_, ?_⟩
  · have tail : s.size = 4 ∨ s.size = 16 → ∀ {X : Prop}, X → ((∃ n_2 : Int, Holds ([AV.s s, AV.i .i64 n][1]? = some (AV.i .i64 n_2)) ∧ True) → True) := fun _ _ _ _ => trivial
    have no (h : ¬((s.size = 4 ∨ s.size = 16) ∧ 0 ≤ n ∧ n ≤ 8 * s.size)) : AV.bo false = .bo ((s.size == 4 || s.size == 16) && (decide (0 ≤ n ∧ n ≤ 8 * s.size) && (List.range (8 * s.size)).all fun j => decide (n ≤ (j : Int) → bitS s j = 0))) := by
      congr 1
      symm
      rw [Bool.eq_false_iff]
      intro t
      simp only [Bool.and_eq_true, Bool.or_eq_true, beq_iff_eq, decide_eq_true_eq] at t
      exact h ⟨t.1, t.2.1⟩
    have w8 (h : s.size = 4 ∨ s.size = 16) : IntKind.wrap .i64 (8 * (s.size : Int)) = 8 * s.size := i64w (by omega) (by omega)
    refine ⟨s, ⟨rfl⟩, br_intro (fun h4 => ⟨s, ⟨rfl⟩, br_intro (fun h16 => no fun t => ?_) (fun h16 => ⟨n, ⟨rfl⟩, br_intro (fun h0 => no fun t => ?_) (fun h0 => ⟨n, ⟨rfl⟩, s, ⟨rfl⟩, br_intro (fun h1 => no fun t => ?_) (fun h1 => ⟨Wk.refl _ _, ?_⟩)⟩)⟩)⟩) (fun h4 => ⟨n, ⟨rfl⟩, br_intro (fun h0 => no fun t => ?_) (fun h0 => ⟨n, ⟨rfl⟩, s, ⟨rfl⟩, br_intro (fun h1 => no fun t => ?_) (fun h1 => ⟨Wk.refl _ _, ?_⟩)⟩)⟩)⟩
    all_goals
      simp only [bne_iff_ne, ne_eq, bne_eq_false_iff_eq, decide_eq_true_eq, decide_eq_false_iff_not] at *
    · omega
    · omega
    · rw [w8 t.1] at h1; omega
    · have h' : s.size = 4 ∨ s.size = 16 := by omega
      rw [w8 h'] at h1
      omega
    · omega
    · rw [w8 t.1] at h1; omega
    · have h' : s.size = 4 ∨ s.size = 16 := by omega
      rw [w8 h'] at h1
      omega
  · rintro _ ⟨hs, h0, h1⟩
    have w8 : IntKind.wrap .i64 (8 * (s.size : Int)) = 8 * s.size := i64w (by omega) (by omega)
    have e1 : (s.size == 4 || s.size == 16) = true := by simpa using hs
    rw [e1, Bool.true_and, decide_eq_true (⟨h0, h1⟩ : 0 ≤ n ∧ n ≤ 8 * s.size), Bool.true_and]
    refine ⟨n, ⟨rfl⟩, Wk.refl _ _, fun m i => ∃ k : Nat, i = k ∧ n ≤ k ∧ (k : Int) + m = 8 * s.size ∧ ∀ j : Nat, n ≤ j → j < k → bitS s j = 0, (8 * s.size - n).toNat, ⟨n.toNat, by omega, by omega, by omega, fun j g1 g2 => by omega⟩, ?_⟩
    rintro i m ⟨k, rfl, hnk, hk, hall⟩
    refine ⟨s, ⟨rfl⟩, ?_⟩
    rw [w8]
    refine br_intro (fun hi => ?_) (fun hi => ?_)
    · have hi := of_decide_eq_true hi
      refine ⟨s, ⟨rfl⟩, ⟨by omega, hi, by omega⟩, br_intro (fun hb => ?_) (fun hb => ⟨Wk.refl _ _, m - 1, ⟨by omega⟩, k + 1, i64w (x := (k : Int) + 1) (by omega) (by omega), by omega, by omega, fun j g1 g2 => ?_⟩)⟩
      · congr 1
        symm
        rw [Bool.eq_false_iff]
        intro t
        have := of_decide_eq_true (List.all_eq_true.1 t k (List.mem_range.2 (by omega))) hnk
        rw [this] at hb
        cases hb
      · rcases Nat.lt_or_ge j k with h | h
        · exact hall j g1 h
        · obtain rfl : j = k := by omega
          simpa using hb
    · have hi := of_decide_eq_false hi
      congr 1
      symm
      exact List.all_eq_true.2 fun j hj => decide_eq_true fun hn => hall j hn (by have := List.mem_range.1 hj; omega)
theorem run12 (s : ByteArray) (n : Int) (a : ByteArray) : Holds (wpFn P (T12 bitS anyB netB) noW (head12 s n a) 0 Go.Proofs.Try.f12 [.ag [.s s, .i .i64 n], .s a] [] fun v _ => v = .bo (inB s n a)) := by
  refine ⟨?_⟩
  rw [vc12]
  unfold inB
  refine ⟨fun _ => netB s n = true ∧ (a.size = 4 ∨ a.size = 16), ⟨s, n, ⟨rfl⟩, ?_⟩, ?_⟩
  · rintro b ⟨hb⟩
    rw [hb]
    refine br_intro (fun h => by rw [Bool.not_eq_true'] at h; rw [h, Bool.false_and]) (fun h => ?_)
    have h : b = true := by simpa using h
    subst h
    refine br_intro (fun h4 => br_intro (fun h16 => ?_) (fun h16 => ⟨Wk.refl _ _, rfl, ?_⟩)) (fun h4 => ⟨Wk.refl _ _, rfl, ?_⟩)
    · simp only [bne_iff_ne, ne_eq] at h4 h16
      have e : (a.size == 4 || a.size == 16) = false := by
        rw [Bool.eq_false_iff]
        intro t
        simp only [Bool.or_eq_true, beq_iff_eq] at t
        omega
      rw [e, Bool.false_and, Bool.and_false]
    · simp only [bne_iff_ne, ne_eq, bne_eq_false_iff_eq] at h4 h16
      omega
    · simp only [bne_eq_false_iff_eq] at h4
      omega
  · rintro _ ⟨hn, ha⟩
    have e1 : (a.size == 4 || a.size == 16) = true := by simpa using ha
    rw [hn, e1, Bool.true_and, Bool.true_and]
    refine ⟨s, n, ⟨rfl⟩, ?_⟩
    rintro b ⟨hb⟩
    rw [hb]
    refine br_intro (fun h => by rw [h, Bool.true_or]) (fun h => ?_)
    subst h
    rw [Bool.false_or]
    have hn' := hn
    unfold netB at hn'
    rw [hb, Bool.false_or] at hn'
    simp only [Bool.and_eq_true, Bool.or_eq_true, beq_iff_eq, decide_eq_true_eq] at hn'
    refine ⟨s, ⟨rfl⟩, br_intro (fun hne => ?_) (fun hne => ?_)⟩
    · simp only [bne_iff_ne, ne_eq] at hne
      have e : (a.size == s.size) = false := by
        rw [Bool.eq_false_iff]
        intro t
        simp only [beq_iff_eq] at t
        omega
      rw [e, Bool.false_and]
    · simp only [bne_eq_false_iff_eq] at hne
      have e : (a.size == s.size) = true := by
        simp only [beq_iff_eq]
        omega
      rw [e, Bool.true_and]
      refine ⟨n, ⟨rfl⟩, Wk.refl _ _, fun m i => ∃ k : Nat, i = k ∧ (k : Int) + m = n ∧ ∀ j : Nat, j < k → bitS s j = bitS a j, n.toNat, ⟨0, rfl, by omega, fun j g => absurd g (Nat.not_lt_zero _)⟩, ?_⟩
      rintro i m ⟨k, rfl, hk, hall⟩
      refine br_intro (fun hi => ?_) (fun hi => ?_)
      · have hi := of_decide_eq_true hi
        refine ⟨s, ⟨rfl⟩, ⟨by omega, by omega, by omega⟩, ⟨by omega, by omega, by omega⟩, br_intro (fun hb => ?_) (fun hb => ⟨Wk.refl _ _, m - 1, ⟨by omega⟩, k + 1, i64w (x := (k : Int) + 1) (by omega) (by omega), by omega, fun j g => ?_⟩)⟩
        · congr 1
          symm
          rw [Bool.eq_false_iff]
          intro t
          have := List.all_eq_true.1 t k (List.mem_range.2 (by omega))
          rw [beq_iff_eq] at this
          rw [this, bne_self_eq_false] at hb
          cases hb
        · rcases Nat.lt_or_ge j k with h | h
          · exact hall j h
          · obtain rfl : j = k := by omega
            simpa using hb
      · have hi := of_decide_eq_false hi
        congr 1
        symm
        exact List.all_eq_true.2 fun j hj => by rw [beq_iff_eq]; exact hall j (by have := List.mem_range.1 hj; omega)
end Go.Proofs.Ytfnbbgnknkondaa.RulesRun
