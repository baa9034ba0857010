/- Ranges, rules. -/
import Derived.Test.YtfnbbgnknkondaaRulesNb
set_option linter.unusedVariables false
set_option linter.unusedSimpArgs false
open Go Go.Proofs.Ytfnbbgnknkondaa.Eng Go.RowKit
namespace Go.Proofs.Ytfnbbgnknkondaa.RulesRun
/-- Is it a range? Is a port in one? Is it a rule? -/
def tports (B : Int → Int → Bool) (args : List AV) (h : Hp) (K : AV → Hp → Prop) : Prop := match args with
  | [.i .i64 lo, .i .i64 hi] => ∀ b : Bool, Holds (B lo hi = b) → K (.bo b) h
  | _ => False
def tport (B : Int → Int → Int → Bool) (args : List AV) (h : Hp) (K : AV → Hp → Prop) : Prop := match args with
  | [.i .i64 lo, .i .i64 hi, .i .i64 p] => ∀ b : Bool, Holds (B lo hi p = b) → K (.bo b) h
  | _ => False
def trule (B : RuleV → Bool) (args : List AV) (h : Hp) (K : AV → Hp → Prop) : Prop := match args with
  | [.ag [.i .i64 r0, .i .i64 r1, .s r2, .i .i64 r3, .s r4, .i .i64 r5, .i .i64 r6, .i .i64 r7, .i .i64 r8, .i .i64 r9, .bo r10]] => ∀ b : Bool, Holds (B ⟨r0, r1, r2, r3, r4, r5, r6, r7, r8, r9, r10⟩ = b) → K (.bo b) h
  | _ => False
noncomputable abbrev T14 (N : ByteArray → Int → Bool) (O : Int → Int → Bool) : TEnv := tcons 26 (tnetS N) (tcons 31 (tports O) (tcons 32 (tinl P tnil noW Go.Proofs.Try.f32) tnil))
noncomputable abbrev T40 (G : RuleV → Bool) (I : ByteArray → Int → ByteArray → Bool) (Q : Int → Int → Int → Bool) : TEnv := tcons 33 (tinl P (tcons 14 (trule G) tnil) noW Go.Proofs.Try.f33) (tcons 34 (tinl P tnil noW Go.Proofs.Try.f34) (tcons 35 (tinl P tnil noW Go.Proofs.Try.f35) (tcons 36 (tinl P (tcons 12 (tinS I) tnil) noW Go.Proofs.Try.f36) (tcons 37 (tinl P (tcons 38 (tport Q) tnil) noW Go.Proofs.Try.f37) tnil))))
noncomputable abbrev T16 (G : RuleV → Bool) (I : ByteArray → Int → ByteArray → Bool) (Q : Int → Int → Int → Bool) : TEnv := tcons 39 (tinl P (tcons 47 (tinl P (tcons 40 (tinl P (T40 G I Q) noW Go.Proofs.Try.f40) tnil) noW Go.Proofs.Try.f47) tnil) noW Go.Proofs.Try.f39) tnil
theorem vc31 (lo hi : Int) (R : AV → Hp → Prop) : (wpFn P tnil noW noL 0 Go.Proofs.Try.f31 [.i .i64 lo, .i .i64 hi] [] R) = (br (decide (lo ≥ (0 : Int))) (br (decide (lo ≤ hi)) (R (AV.bo (decide (hi ≤ (65535 : Int)))) []) (R (AV.bo false) [])) (R (AV.bo false) [])) := by kernel_rfl
theorem vc38 (lo hi p : Int) (R : AV → Hp → Prop) : (wpFn P tnil noW noL 0 Go.Proofs.Try.f38 [.i .i64 lo, .i .i64 hi, .i .i64 p] [] R) = (br (decide (p < (0 : Int))) (br (lo == (0 : Int)) (R (AV.bo (hi == (65535 : Int))) []) (R (AV.bo false) [])) (br (decide (p ≥ lo)) (R (AV.bo (decide (p ≤ hi))) []) (R (AV.bo false) []))) := by kernel_rfl
theorem vc14 (N : ByteArray → Int → Bool) (O : Int → Int → Bool) (r0 r1 : Int) (r2 : ByteArray) (r3 : Int) (r4 : ByteArray) (r5 r6 r7 r8 r9 : Int) (r10 : Bool) (R : AV → Hp → Prop) : (wpFn P (T14 N O) W14 noL 0 Go.Proofs.Try.f14 [.ag [.i .i64 r0, .i .i64 r1, .s r2, .i .i64 r3, .s r4, .i .i64 r5, .i .i64 r6, .i .i64 r7, .i .i64 r8, .i .i64 r9, .bo r10]] [] R) = (∃ (s : ByteArray), ∃ (n : Int), Holds ([AV.s r2, AV.i IntKind.i64 r3] = [AV.s s, AV.i IntKind.i64 n]) ∧ ∀ (b : Bool), Holds (N s n = b) → br (!b) (R (AV.bo false) [Blk.cells [AV.i IntKind.i64 r0, AV.i IntKind.i64 r1, AV.s r2, AV.i IntKind.i64 r3, AV.s r4, AV.i IntKind.i64 r5, AV.i IntKind.i64 r6, AV.i IntKind.i64 r7, AV.i IntKind.i64 r8, AV.i IntKind.i64 r9, AV.bo r10] true]) (∃ (s : ByteArray), ∃ (n : Int), Holds ([AV.s r4, AV.i IntKind.i64 r5] = [AV.s s, AV.i IntKind.i64 n]) ∧ ∀ (b : Bool), Holds (N s n = b) → br (!b) (R (AV.bo false) [Blk.cells [AV.i IntKind.i64 r0, AV.i IntKind.i64 r1, AV.s r2, AV.i IntKind.i64 r3, AV.s r4, AV.i IntKind.i64 r5, AV.i IntKind.i64 r6, AV.i IntKind.i64 r7, AV.i IntKind.i64 r8, AV.i IntKind.i64 r9, AV.bo r10] true]) (∃ (n : Int), Holds ([AV.i IntKind.i64 r0, AV.i IntKind.i64 r1, AV.s r2, AV.i IntKind.i64 r3, AV.s r4, AV.i IntKind.i64 r5, AV.i IntKind.i64 r6, AV.i IntKind.i64 r7, AV.i IntKind.i64 r8, AV.i IntKind.i64 r9, AV.bo r10][(6 : Nat)]? = some (AV.i IntKind.i64 n)) ∧ ∃ (n_1 : Int), Holds ([AV.i IntKind.i64 r0, AV.i IntKind.i64 r1, AV.s r2, AV.i IntKind.i64 r3, AV.s r4, AV.i IntKind.i64 r5, AV.i IntKind.i64 r6, AV.i IntKind.i64 r7, AV.i IntKind.i64 r8, AV.i IntKind.i64 r9, AV.bo r10][(7 : Nat)]? = some (AV.i IntKind.i64 n_1)) ∧ ∀ (b : Bool), Holds (O n n_1 = b) → br (!b) (R (AV.bo false) [Blk.cells [AV.i IntKind.i64 r0, AV.i IntKind.i64 r1, AV.s r2, AV.i IntKind.i64 r3, AV.s r4, AV.i IntKind.i64 r5, AV.i IntKind.i64 r6, AV.i IntKind.i64 r7, AV.i IntKind.i64 r8, AV.i IntKind.i64 r9, AV.bo r10] true]) (∃ (n : Int), Holds ([AV.i IntKind.i64 r0, AV.i IntKind.i64 r1, AV.s r2, AV.i IntKind.i64 r3, AV.s r4, AV.i IntKind.i64 r5, AV.i IntKind.i64 r6, AV.i IntKind.i64 r7, AV.i IntKind.i64 r8, AV.i IntKind.i64 r9, AV.bo r10][(8 : Nat)]? = some (AV.i IntKind.i64 n)) ∧ ∃ (n_2 : Int), Holds ([AV.i IntKind.i64 r0, AV.i IntKind.i64 r1, AV.s r2, AV.i IntKind.i64 r3, AV.s r4, AV.i IntKind.i64 r5, AV.i IntKind.i64 r6, AV.i IntKind.i64 r7, AV.i IntKind.i64 r8, AV.i IntKind.i64 r9, AV.bo r10][(9 : Nat)]? = some (AV.i IntKind.i64 n_2)) ∧ ∀ (b : Bool), Holds (O n n_2 = b) → br (!b) (R (AV.bo false) [Blk.cells [AV.i IntKind.i64 r0, AV.i IntKind.i64 r1, AV.s r2, AV.i IntKind.i64 r3, AV.s r4, AV.i IntKind.i64 r5, AV.i IntKind.i64 r6, AV.i IntKind.i64 r7, AV.i IntKind.i64 r8, AV.i IntKind.i64 r9, AV.bo r10] true]) (∃ (n : Int), Holds ([AV.i IntKind.i64 r0, AV.i IntKind.i64 r1, AV.s r2, AV.i IntKind.i64 r3, AV.s r4, AV.i IntKind.i64 r5, AV.i IntKind.i64 r6, AV.i IntKind.i64 r7, AV.i IntKind.i64 r8, AV.i IntKind.i64 r9, AV.bo r10][(1 : Nat)]? = some (AV.i IntKind.i64 n)) ∧ br (decide (n < (0 : Int))) (R (AV.bo false) [Blk.cells [AV.i IntKind.i64 r0, AV.i IntKind.i64 r1, AV.s r2, AV.i IntKind.i64 r3, AV.s r4, AV.i IntKind.i64 r5, AV.i IntKind.i64 r6, AV.i IntKind.i64 r7, AV.i IntKind.i64 r8, AV.i IntKind.i64 r9, AV.bo r10] true]) (∃ (n : Int), Holds ([AV.i IntKind.i64 r0, AV.i IntKind.i64 r1, AV.s r2, AV.i IntKind.i64 r3, AV.s r4, AV.i IntKind.i64 r5, AV.i IntKind.i64 r6, AV.i IntKind.i64 r7, AV.i IntKind.i64 r8, AV.i IntKind.i64 r9, AV.bo r10][(1 : Nat)]? = some (AV.i IntKind.i64 n)) ∧ br (decide (n > (255 : Int))) (R (AV.bo false) [Blk.cells [AV.i IntKind.i64 r0, AV.i IntKind.i64 r1, AV.s r2, AV.i IntKind.i64 r3, AV.s r4, AV.i IntKind.i64 r5, AV.i IntKind.i64 r6, AV.i IntKind.i64 r7, AV.i IntKind.i64 r8, AV.i IntKind.i64 r9, AV.bo r10] true]) (∃ (s : ByteArray), Holds ([AV.i IntKind.i64 r0, AV.i IntKind.i64 r1, AV.s r2, AV.i IntKind.i64 r3, AV.s r4, AV.i IntKind.i64 r5, AV.i IntKind.i64 r6, AV.i IntKind.i64 r7, AV.i IntKind.i64 r8, AV.i IntKind.i64 r9, AV.bo r10][(2 : Nat)]? = some (AV.s s)) ∧ ∃ (s_1 : ByteArray), Holds ([AV.i IntKind.i64 r0, AV.i IntKind.i64 r1, AV.s r2, AV.i IntKind.i64 r3, AV.s r4, AV.i IntKind.i64 r5, AV.i IntKind.i64 r6, AV.i IntKind.i64 r7, AV.i IntKind.i64 r8, AV.i IntKind.i64 r9, AV.bo r10][(4 : Nat)]? = some (AV.s s_1)) ∧ Holds ((1 : Nat) ≤ List.length [AV.i IntKind.i64 (0 : Int)]) ∧ Holds ((1 : Nat) ≤ List.length [AV.i IntKind.i64 (0 : Int)]) ∧ ∃ (n : Int), Holds ([AV.i IntKind.i64 r0, AV.i IntKind.i64 r1, AV.s r2, AV.i IntKind.i64 r3, AV.s r4, AV.i IntKind.i64 r5, AV.i IntKind.i64 r6, AV.i IntKind.i64 r7, AV.i IntKind.i64 r8, AV.i IntKind.i64 r9, AV.bo r10][(0 : Nat)]? = some (AV.i IntKind.i64 n)) ∧ br (n == (0 : Int)) (∃ (n : Int), Holds ([AV.i IntKind.i64 (↑(ByteArray.size s) : Int)][(0 : Nat)]? = some (AV.i IntKind.i64 n)) ∧ br (n == (0 : Int)) (R (AV.bo true) [Blk.cells [AV.i IntKind.i64 r0, AV.i IntKind.i64 r1, AV.s r2, AV.i IntKind.i64 r3, AV.s r4, AV.i IntKind.i64 r5, AV.i IntKind.i64 r6, AV.i IntKind.i64 r7, AV.i IntKind.i64 r8, AV.i IntKind.i64 r9, AV.bo r10] true, Blk.cells [AV.i IntKind.i64 (↑(ByteArray.size s) : Int)] true, Blk.cells [AV.i IntKind.i64 (↑(ByteArray.size s_1) : Int)] true]) (∃ (n : Int), Holds ([AV.i IntKind.i64 (↑(ByteArray.size s_1) : Int)][(0 : Nat)]? = some (AV.i IntKind.i64 n)) ∧ br (n == (0 : Int)) (R (AV.bo true) [Blk.cells [AV.i IntKind.i64 r0, AV.i IntKind.i64 r1, AV.s r2, AV.i IntKind.i64 r3, AV.s r4, AV.i IntKind.i64 r5, AV.i IntKind.i64 r6, AV.i IntKind.i64 r7, AV.i IntKind.i64 r8, AV.i IntKind.i64 r9, AV.bo r10] true, Blk.cells [AV.i IntKind.i64 (↑(ByteArray.size s) : Int)] true, Blk.cells [AV.i IntKind.i64 (↑(ByteArray.size s_1) : Int)] true]) (∃ (n : Int), Holds ([AV.i IntKind.i64 (↑(ByteArray.size s) : Int)][(0 : Nat)]? = some (AV.i IntKind.i64 n)) ∧ ∃ (n_3 : Int), Holds ([AV.i IntKind.i64 (↑(ByteArray.size s_1) : Int)][(0 : Nat)]? = some (AV.i IntKind.i64 n_3)) ∧ R (AV.bo (n == n_3)) [Blk.cells [AV.i IntKind.i64 r0, AV.i IntKind.i64 r1, AV.s r2, AV.i IntKind.i64 r3, AV.s r4, AV.i IntKind.i64 r5, AV.i IntKind.i64 r6, AV.i IntKind.i64 r7, AV.i IntKind.i64 r8, AV.i IntKind.i64 r9, AV.bo r10] true, Blk.cells [AV.i IntKind.i64 (↑(ByteArray.size s) : Int)] true, Blk.cells [AV.i IntKind.i64 (↑(ByteArray.size s_1) : Int)] true]))) (br (n == (4 : Int)) (∃ (n : Int), Holds ([AV.i IntKind.i64 (↑(ByteArray.size s) : Int)][(0 : Nat)]? = some (AV.i IntKind.i64 n)) ∧ br (n == (0 : Int)) (∃ (n : Int), Holds ([AV.i IntKind.i64 (↑(ByteArray.size s_1) : Int)][(0 : Nat)]? = some (AV.i IntKind.i64 n)) ∧ br (n == (0 : Int)) (R (AV.bo true) [Blk.cells [AV.i IntKind.i64 r0, AV.i IntKind.i64 r1, AV.s r2, AV.i IntKind.i64 r3, AV.s r4, AV.i IntKind.i64 r5, AV.i IntKind.i64 r6, AV.i IntKind.i64 r7, AV.i IntKind.i64 r8, AV.i IntKind.i64 r9, AV.bo r10] true, Blk.cells [AV.i IntKind.i64 (↑(ByteArray.size s) : Int)] true, Blk.cells [AV.i IntKind.i64 (↑(ByteArray.size s_1) : Int)] true]) (∃ (n : Int), Holds ([AV.i IntKind.i64 (↑(ByteArray.size s_1) : Int)][(0 : Nat)]? = some (AV.i IntKind.i64 n)) ∧ R (AV.bo (n == (4 : Int))) [Blk.cells [AV.i IntKind.i64 r0, AV.i IntKind.i64 r1, AV.s r2, AV.i IntKind.i64 r3, AV.s r4, AV.i IntKind.i64 r5, AV.i IntKind.i64 r6, AV.i IntKind.i64 r7, AV.i IntKind.i64 r8, AV.i IntKind.i64 r9, AV.bo r10] true, Blk.cells [AV.i IntKind.i64 (↑(ByteArray.size s) : Int)] true, Blk.cells [AV.i IntKind.i64 (↑(ByteArray.size s_1) : Int)] true])) (∃ (n : Int), Holds ([AV.i IntKind.i64 (↑(ByteArray.size s) : Int)][(0 : Nat)]? = some (AV.i IntKind.i64 n)) ∧ br (n == (4 : Int)) (∃ (n : Int), Holds ([AV.i IntKind.i64 (↑(ByteArray.size s_1) : Int)][(0 : Nat)]? = some (AV.i IntKind.i64 n)) ∧ br (n == (0 : Int)) (R (AV.bo true) [Blk.cells [AV.i IntKind.i64 r0, AV.i IntKind.i64 r1, AV.s r2, AV.i IntKind.i64 r3, AV.s r4, AV.i IntKind.i64 r5, AV.i IntKind.i64 r6, AV.i IntKind.i64 r7, AV.i IntKind.i64 r8, AV.i IntKind.i64 r9, AV.bo r10] true, Blk.cells [AV.i IntKind.i64 (↑(ByteArray.size s) : Int)] true, Blk.cells [AV.i IntKind.i64 (↑(ByteArray.size s_1) : Int)] true]) (∃ (n : Int), Holds ([AV.i IntKind.i64 (↑(ByteArray.size s_1) : Int)][(0 : Nat)]? = some (AV.i IntKind.i64 n)) ∧ R (AV.bo (n == (4 : Int))) [Blk.cells [AV.i IntKind.i64 r0, AV.i IntKind.i64 r1, AV.s r2, AV.i IntKind.i64 r3, AV.s r4, AV.i IntKind.i64 r5, AV.i IntKind.i64 r6, AV.i IntKind.i64 r7, AV.i IntKind.i64 r8, AV.i IntKind.i64 r9, AV.bo r10] true, Blk.cells [AV.i IntKind.i64 (↑(ByteArray.size s) : Int)] true, Blk.cells [AV.i IntKind.i64 (↑(ByteArray.size s_1) : Int)] true])) (R (AV.bo false) [Blk.cells [AV.i IntKind.i64 r0, AV.i IntKind.i64 r1, AV.s r2, AV.i IntKind.i64 r3, AV.s r4, AV.i IntKind.i64 r5, AV.i IntKind.i64 r6, AV.i IntKind.i64 r7, AV.i IntKind.i64 r8, AV.i IntKind.i64 r9, AV.bo r10] true, Blk.cells [AV.i IntKind.i64 (↑(ByteArray.size s) : Int)] true, Blk.cells [AV.i IntKind.i64 (↑(ByteArray.size s_1) : Int)] true]))) (br (n == (6 : Int)) (∃ (n : Int), Holds ([AV.i IntKind.i64 (↑(ByteArray.size s) : Int)][(0 : Nat)]? = some (AV.i IntKind.i64 n)) ∧ br (n == (0 : Int)) (∃ (n : Int), Holds ([AV.i IntKind.i64 (↑(ByteArray.size s_1) : Int)][(0 : Nat)]? = some (AV.i IntKind.i64 n)) ∧ br (n == (0 : Int)) (R (AV.bo true) [Blk.cells [AV.i IntKind.i64 r0, AV.i IntKind.i64 r1, AV.s r2, AV.i IntKind.i64 r3, AV.s r4, AV.i IntKind.i64 r5, AV.i IntKind.i64 r6, AV.i IntKind.i64 r7, AV.i IntKind.i64 r8, AV.i IntKind.i64 r9, AV.bo r10] true, Blk.cells [AV.i IntKind.i64 (↑(ByteArray.size s) : Int)] true, Blk.cells [AV.i IntKind.i64 (↑(ByteArray.size s_1) : Int)] true]) (∃ (n : Int), Holds ([AV.i IntKind.i64 (↑(ByteArray.size s_1) : Int)][(0 : Nat)]? = some (AV.i IntKind.i64 n)) ∧ R (AV.bo (n == (16 : Int))) [Blk.cells [AV.i IntKind.i64 r0, AV.i IntKind.i64 r1, AV.s r2, AV.i IntKind.i64 r3, AV.s r4, AV.i IntKind.i64 r5, AV.i IntKind.i64 r6, AV.i IntKind.i64 r7, AV.i IntKind.i64 r8, AV.i IntKind.i64 r9, AV.bo r10] true, Blk.cells [AV.i IntKind.i64 (↑(ByteArray.size s) : Int)] true, Blk.cells [AV.i IntKind.i64 (↑(ByteArray.size s_1) : Int)] true])) (∃ (n : Int), Holds ([AV.i IntKind.i64 (↑(ByteArray.size s) : Int)][(0 : Nat)]? = some (AV.i IntKind.i64 n)) ∧ br (n == (16 : Int)) (∃ (n : Int), Holds ([AV.i IntKind.i64 (↑(ByteArray.size s_1) : Int)][(0 : Nat)]? = some (AV.i IntKind.i64 n)) ∧ br (n == (0 : Int)) (R (AV.bo true) [Blk.cells [AV.i IntKind.i64 r0, AV.i IntKind.i64 r1, AV.s r2, AV.i IntKind.i64 r3, AV.s r4, AV.i IntKind.i64 r5, AV.i IntKind.i64 r6, AV.i IntKind.i64 r7, AV.i IntKind.i64 r8, AV.i IntKind.i64 r9, AV.bo r10] true, Blk.cells [AV.i IntKind.i64 (↑(ByteArray.size s) : Int)] true, Blk.cells [AV.i IntKind.i64 (↑(ByteArray.size s_1) : Int)] true]) (∃ (n : Int), Holds ([AV.i IntKind.i64 (↑(ByteArray.size s_1) : Int)][(0 : Nat)]? = some (AV.i IntKind.i64 n)) ∧ R (AV.bo (n == (16 : Int))) [Blk.cells [AV.i IntKind.i64 r0, AV.i IntKind.i64 r1, AV.s r2, AV.i IntKind.i64 r3, AV.s r4, AV.i IntKind.i64 r5, AV.i IntKind.i64 r6, AV.i IntKind.i64 r7, AV.i IntKind.i64 r8, AV.i IntKind.i64 r9, AV.bo r10] true, Blk.cells [AV.i IntKind.i64 (↑(ByteArray.size s) : Int)] true, Blk.cells [AV.i IntKind.i64 (↑(ByteArray.size s_1) : Int)] true])) (R (AV.bo false) [Blk.cells [AV.i IntKind.i64 r0, AV.i IntKind.i64 r1, AV.s r2, AV.i IntKind.i64 r3, AV.s r4, AV.i IntKind.i64 r5, AV.i IntKind.i64 r6, AV.i IntKind.i64 r7, AV.i IntKind.i64 r8, AV.i IntKind.i64 r9, AV.bo r10] true, Blk.cells [AV.i IntKind.i64 (↑(ByteArray.size s) : Int)] true, Blk.cells [AV.i IntKind.i64 (↑(ByteArray.size s_1) : Int)] true]))) (R (AV.bo false) [Blk.cells [AV.i IntKind.i64 r0, AV.i IntKind.i64 r1, AV.s r2, AV.i IntKind.i64 r3, AV.s r4, AV.i IntKind.i64 r5, AV.i IntKind.i64 r6, AV.i IntKind.i64 r7, AV.i IntKind.i64 r8, AV.i IntKind.i64 r9, AV.bo r10] true, Blk.cells [AV.i IntKind.i64 (↑(ByteArray.size s) : Int)] true, Blk.cells [AV.i IntKind.i64 (↑(ByteArray.size s_1) : Int)] true])))))))))) := by kernel_rfl
def portsB (lo hi : Int) : Bool := decide (lo ≥ 0) && (decide (lo ≤ hi) && decide (hi ≤ 65535))
def portB (lo hi p : Int) : Bool := if p < 0 then lo == 0 && hi == 65535 else decide (p ≥ lo) && decide (p ≤ hi)
def sideB (sd : Int) (a b : Nat) : Bool :=
  if sd = 0 then a == 0 || (b == 0 || a == b) else if sd = 4 then (a == 0 || a == 4) && (b == 0 || b == 4) else if sd = 6 then (a == 0 || a == 16) && (b == 0 || b == 16) else false
def rightB (r : RuleV) : Bool := netB r.fs r.fn && (netB r.ts r.tn && (portsB r.fl r.fh && (portsB r.tl r.th && (!decide (r.pr < 0) && (!decide (r.pr > 255) && sideB r.sd r.fs.size r.ts.size)))))
def fitsB (r : RuleV) (v : ViewV) : Bool := rightB r && ((r.sd == 0 || r.sd == v.sd) && ((r.pr == 0 || r.pr == v.pr) && ((inB r.fs r.fn v.f && inB r.ts r.tn v.t) && (portB r.fl r.fh v.fp && portB r.tl r.th v.tp))))
theorem run31 (lo hi : Int) : wpFn P tnil noW noL 0 Go.Proofs.Try.f31 [.i .i64 lo, .i .i64 hi] [] fun v _ => v = .bo (portsB lo hi) := by
  rw [vc31]
  unfold portsB
  refine br_intro (fun h => br_intro (fun h' => ?_) (fun h' => ?_)) (fun h => ?_)
  · rw [h, h', Bool.true_and, Bool.true_and]
  · rw [h, h', Bool.true_and, Bool.false_and]
  · rw [h, Bool.false_and]
theorem run38 (lo hi p : Int) : wpFn P tnil noW noL 0 Go.Proofs.Try.f38 [.i .i64 lo, .i .i64 hi, .i .i64 p] [] fun v _ => v = .bo (portB lo hi p) := by
  rw [vc38]
  unfold portB
  refine br_intro (fun h => ?_) (fun h => ?_)
  · rw [if_pos (of_decide_eq_true h)]
    exact br_intro (fun h' => by rw [h', Bool.true_and]) (fun h' => by rw [h', Bool.false_and])
  · rw [if_neg (of_decide_eq_false h)]
    exact br_intro (fun h' => by rw [h', Bool.true_and]) (fun h' => by rw [h', Bool.false_and])
theorem natbeq (n : Nat) (k : Nat) : (((n : Nat) : Int) == (k : Int)) = (n == k) := by
  rw [Bool.eq_iff_iff, beq_iff_eq, beq_iff_eq]; omega
set_option maxRecDepth 100000 in
theorem run14 (r : RuleV) : Holds (wpFn P (T14 netB portsB) W14 noL 0 Go.Proofs.Try.f14 [mkR r] [] fun v _ => v = .bo (rightB r)) := by
  refine ⟨?_⟩
  obtain ⟨r0, r1, r2, r3, r4, r5, r6, r7, r8, r9, r10⟩ := r
  unfold mkR rightB
  rw [vc14]
  simp only
  refine ⟨r2, r3, ⟨rfl⟩, ?_⟩
  rintro b ⟨hb⟩
  rw [hb]
  refine br_intro (fun h => by rw [Bool.not_eq_true'] at h; rw [h, Bool.false_and]) (fun h => ?_)
  obtain rfl : b = true := by simpa using h
  refine ⟨r4, r5, ⟨rfl⟩, ?_⟩
  rintro b ⟨hb⟩
  rw [hb, Bool.true_and]
  refine br_intro (fun h => by rw [Bool.not_eq_true'] at h; rw [h, Bool.false_and]) (fun h => ?_)
  obtain rfl : b = true := by simpa using h
  refine ⟨r6, ⟨rfl⟩, r7, ⟨rfl⟩, ?_⟩
  rintro b ⟨hb⟩
  rw [hb, Bool.true_and]
  refine br_intro (fun h => by rw [Bool.not_eq_true'] at h; rw [h, Bool.false_and]) (fun h => ?_)
  obtain rfl : b = true := by simpa using h
  refine ⟨r8, ⟨rfl⟩, r9, ⟨rfl⟩, ?_⟩
  rintro b ⟨hb⟩
  rw [hb, Bool.true_and]
  refine br_intro (fun h => by rw [Bool.not_eq_true'] at h; rw [h, Bool.false_and]) (fun h => ?_)
  obtain rfl : b = true := by simpa using h
  rw [Bool.true_and]
  refine ⟨r1, ⟨rfl⟩, br_intro (fun h => by rw [h, Bool.not_true, Bool.false_and]) (fun h => ⟨r1, ⟨rfl⟩, br_intro (fun h' => by rw [h, h', Bool.not_false, Bool.not_true, Bool.true_and, Bool.false_and]) (fun h' => ?_)⟩)⟩
  rw [h, h', Bool.not_false, Bool.true_and, Bool.true_and]
  have n0 (n : Nat) : ((n : Int) == 0) = (n == 0) := natbeq n 0
  have n4 (n : Nat) : ((n : Int) == 4) = (n == 4) := natbeq n 4
  have n16 (n : Nat) : ((n : Int) == 16) = (n == 16) := natbeq n 16
  unfold sideB
  refine ⟨r2, ⟨rfl⟩, r4, ⟨rfl⟩, ⟨by decide⟩, ⟨by decide⟩, r0, ⟨rfl⟩, br_intro (fun h0 => ?_) (fun h0 => br_intro (fun h4 => ?_) (fun h4 => br_intro (fun h6 => ?_) (fun h6 => ?_)))⟩
  · rw [if_pos (eq_of_beq h0)]
    refine ⟨_, ⟨rfl⟩, br_intro (fun g => ?_) (fun g => ⟨_, ⟨rfl⟩, br_intro (fun g' => ?_) (fun g' => ⟨_, ⟨rfl⟩, _, ⟨rfl⟩, ?_⟩)⟩)⟩
    · rw [n0] at g; rw [g, Bool.true_or]
    · rw [n0] at g g'; rw [g, g', Bool.true_or, Bool.or_true]
    · rw [n0] at g g'; rw [g, g', Bool.false_or, Bool.false_or, natbeq]
  · rw [if_neg (by intro t; rw [t] at h0; cases h0), if_pos (eq_of_beq h4)]
    refine ⟨_, ⟨rfl⟩, br_intro (fun g => ⟨_, ⟨rfl⟩, br_intro (fun g' => ?_) (fun g' => ⟨_, ⟨rfl⟩, ?_⟩)⟩) (fun g => ⟨_, ⟨rfl⟩, br_intro (fun g' => ⟨_, ⟨rfl⟩, br_intro (fun g'' => ?_) (fun g'' => ⟨_, ⟨rfl⟩, ?_⟩)⟩) (fun g' => ?_)⟩)⟩
    · rw [n0] at g g'; rw [g, g', Bool.true_or, Bool.true_or]; rfl
    · rw [n0] at g g'; rw [n4, g, g', Bool.true_or, Bool.false_or, Bool.true_and]
    · rw [n4] at g'; rw [n0] at g''; rw [g', g'', Bool.or_true, Bool.true_or]; rfl
    · rw [n4] at g'; rw [n0] at g''; rw [n4, g', g'', Bool.or_true, Bool.false_or, Bool.true_and]
    · rw [n4] at g'; rw [n0] at g; rw [g, g', Bool.false_or, Bool.false_and]
  · rw [if_neg (by intro t; rw [t] at h0; cases h0), if_neg (by intro t; rw [t] at h4; cases h4), if_pos (eq_of_beq h6)]
    refine ⟨_, ⟨rfl⟩, br_intro (fun g => ⟨_, ⟨rfl⟩, br_intro (fun g' => ?_) (fun g' => ⟨_, ⟨rfl⟩, ?_⟩)⟩) (fun g => ⟨_, ⟨rfl⟩, br_intro (fun g' => ⟨_, ⟨rfl⟩, br_intro (fun g'' => ?_) (fun g'' => ⟨_, ⟨rfl⟩, ?_⟩)⟩) (fun g' => ?_)⟩)⟩
    · rw [n0] at g g'; rw [g, g', Bool.true_or, Bool.true_or]; rfl
    · rw [n0] at g g'; rw [n16, g, g', Bool.true_or, Bool.false_or, Bool.true_and]
    · rw [n16] at g'; rw [n0] at g''; rw [g', g'', Bool.or_true, Bool.true_or]; rfl
    · rw [n16] at g'; rw [n0] at g''; rw [n16, g', g'', Bool.or_true, Bool.false_or, Bool.true_and]
    · rw [n16] at g'; rw [n0] at g; rw [g, g', Bool.false_or, Bool.false_and]
  · rw [if_neg (by intro t; rw [t] at h0; cases h0), if_neg (by intro t; rw [t] at h4; cases h4), if_neg (by intro t; rw [t] at h6; cases h6)]
end Go.Proofs.Ytfnbbgnknkondaa.RulesRun
