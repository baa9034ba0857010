/- Rules and views, beside the document. -/
import Derived.Test.YtfnbbgnknkondaaRulesRh
set_option linter.unusedVariables false
set_option linter.unusedSimpArgs false
open Go Go.Proofs.Ytfnbbgnknkondaa.Eng Go.RowKit
namespace Go.Proofs.Ytfnbbgnknkondaa.RulesRun
def tfits (F : RuleV → ViewV → Bool) (args : List AV) (h : Hp) (K : AV → Hp → Prop) : Prop := match args with
  | [.ag [.i .i64 r0, .i .i64 r1, .s r2, .i .i64 r3, .s r4, .i .i64 r5, .i .i64 r6, .i .i64 r7, .i .i64 r8, .i .i64 r9, .bo r10], .ag [.i .i64 v0, .i .i64 v1, .s v2, .s v3, .i .i64 v4, .i .i64 v5]] => ∀ b : Bool, Holds (F ⟨r0, r1, r2, r3, r4, r5, r6, r7, r8, r9, r10⟩ ⟨v0, v1, v2, v3, v4, v5⟩ = b) → K (.bo b) h
  | _ => False
def tfitsR (F : RuleV → ViewV → Bool) (args : List AV) (h : Hp) (K : AV → Hp → Prop) : Prop := match args with
  | [.ag [.i .i64 r0, .i .i64 r1, .s r2, .i .i64 r3, .s r4, .i .i64 r5, .i .i64 r6, .i .i64 r7, .i .i64 r8, .i .i64 r9, .bo r10], .ag [.i .i64 v0, .i .i64 v1, .s v2, .s v3, .i .i64 v4, .i .i64 v5]] => Holds (r2.size ≤ 200 ∧ r4.size ≤ 200 ∧ v2.size ≤ 200 ∧ v3.size ≤ 200) ∧ ∀ b : Bool, Holds (F ⟨r0, r1, r2, r3, r4, r5, r6, r7, r8, r9, r10⟩ ⟨v0, v1, v2, v3, v4, v5⟩ = b) → K (.bo b) h
  | _ => False
def W3 : Nat → Option Eng.Road := fun r => match r with
  | 5 => some ⟨some ([], (.pure 0 (.pure 2 (.pure 5 (.pure 7 (.old 1 (.old 3 (.old 6 (.old 8 (.eff 4 (.eff 9 (.pure 10 (.pure 11 (.pure 12 (.pure 14 (.pure 17 (.pure 19 (.old 13 (.old 15 (.old 18 (.old 20 (.eff 16 (.eff 21 (.pure 22 (.pure 23 (.pure 24 (.old 25 (.old 27 (.eff 26 (.eff 28 (.pure 29 (.pure 30 (.pure 31 (.old 32 (.old 33 (.old 35 (.old 36 (.eff 34 (.eff 37 (.pure 38 (.pure 39 (.pure 40 (.eff 41 (.pure 42 (.pure 43 .nil))))))))))))))))))))))))))))))))))))))))))))), .nil⟩
  | _ => none
noncomputable abbrev T3 (I : ByteArray → Int → ByteArray → Bool) (G : RuleV → Bool) (F : RuleV → ViewV → Bool) : TEnv := tcons 9 tgreat (tcons 10 (tconst (.bo true)) (tcons 11 (tinl P tnil noW Go.Proofs.Try.f11) (tcons 12 (tinS I) (tcons 13 (tinR I) (tcons 14 (trule G) (tcons 15 (truleR G) (tcons 16 (tfits F) (tcons 17 (tfitsR F) tnil))))))))
set_option maxRecDepth 100000 in
theorem vc3 (I : ByteArray → Int → ByteArray → Bool) (G : RuleV → Bool) (F : RuleV → ViewV → Bool) (r0 r1 : Int) (r2 : ByteArray) (r3 : Int) (r4 : ByteArray) (r5 r6 r7 r8 r9 : Int) (r10 : Bool) (v0 v1 : Int) (v2 v3 : ByteArray) (v4 v5 : Int) (R : AV → Hp → Prop) : (wpFn P (T3 I G F) W3 noL 0 Go.Proofs.Try.f3 [.ag [.i .i64 r0, .i .i64 r1, .s r2, .i .i64 r3, .s r4, .i .i64 r5, .i .i64 r6, .i .i64 r7, .i .i64 r8, .i .i64 r9, .bo r10], .ag [.i .i64 v0, .i .i64 v1, .s v2, .s v3, .i .i64 v4, .i .i64 v5]] [] R) = (∃ (n : Int), ∃ (n_1 : Int), ∃ (s : ByteArray), ∃ (n_2 : Int), ∃ (s_1 : ByteArray), ∃ (n_3 : Int), ∃ (n_4 : Int), ∃ (n_5 : Int), ∃ (n_6 : Int), ∃ (n_7 : Int), ∃ (b : Bool), Holds ([AV.i IntKind.i64 r0, AV.i IntKind.i64 r1, AV.s r2, AV.i IntKind.i64 r3, AV.s r4, AV.i IntKind.i64 r5, AV.i IntKind.i64 r6, AV.i IntKind.i64 r7, AV.i IntKind.i64 r8, AV.i IntKind.i64 r9, AV.bo r10] = [AV.i IntKind.i64 n, AV.i IntKind.i64 n_1, AV.s s, AV.i IntKind.i64 n_2, AV.s s_1, AV.i IntKind.i64 n_3, AV.i IntKind.i64 n_4, AV.i IntKind.i64 n_5, AV.i IntKind.i64 n_6, AV.i IntKind.i64 n_7, AV.bo b]) ∧ ∃ (n : Int), ∃ (n_8 : Int), ∃ (s_2 : ByteArray), ∃ (s_3 : ByteArray), ∃ (n_9 : Int), ∃ (n_10 : Int), Holds ([AV.i IntKind.i64 v0, AV.i IntKind.i64 v1, AV.s v2, AV.s v3, AV.i IntKind.i64 v4, AV.i IntKind.i64 v5] = [AV.i IntKind.i64 n, AV.i IntKind.i64 n_8, AV.s s_2, AV.s s_3, AV.i IntKind.i64 n_9, AV.i IntKind.i64 n_10]) ∧ ∀ (b : Bool), Holds ((decide ((200 : Nat) < ByteArray.size s) || (decide ((200 : Nat) < ByteArray.size s_1) || (decide ((200 : Nat) < ByteArray.size s_2) || decide ((200 : Nat) < ByteArray.size s_3)))) = b) → br b (R (AV.bo true) [Blk.cells [AV.i IntKind.i64 r0, AV.i IntKind.i64 r1, AV.s r2, AV.i IntKind.i64 r3, AV.s r4, AV.i IntKind.i64 r5, AV.i IntKind.i64 r6, AV.i IntKind.i64 r7, AV.i IntKind.i64 r8, AV.i IntKind.i64 r9, AV.bo r10] true, Blk.cells [AV.i IntKind.i64 v0, AV.i IntKind.i64 v1, AV.s v2, AV.s v3, AV.i IntKind.i64 v4, AV.i IntKind.i64 v5] true]) (∃ (n : Int), ∃ (n_11 : Int), ∃ (s : ByteArray), ∃ (n_12 : Int), ∃ (s_4 : ByteArray), ∃ (n_13 : Int), ∃ (n_14 : Int), ∃ (n_15 : Int), ∃ (n_16 : Int), ∃ (n_17 : Int), ∃ (b : Bool), Holds ([AV.i IntKind.i64 r0, AV.i IntKind.i64 r1, AV.s r2, AV.i IntKind.i64 r3, AV.s r4, AV.i IntKind.i64 r5, AV.i IntKind.i64 r6, AV.i IntKind.i64 r7, AV.i IntKind.i64 r8, AV.i IntKind.i64 r9, AV.bo r10] = [AV.i IntKind.i64 n, AV.i IntKind.i64 n_11, AV.s s, AV.i IntKind.i64 n_12, AV.s s_4, AV.i IntKind.i64 n_13, AV.i IntKind.i64 n_14, AV.i IntKind.i64 n_15, AV.i IntKind.i64 n_16, AV.i IntKind.i64 n_17, AV.bo b]) ∧ ∃ (n_18 : Int), Holds ([AV.i IntKind.i64 n, AV.i IntKind.i64 n_11, AV.s s, AV.i IntKind.i64 n_12, AV.s s_4, AV.i IntKind.i64 n_13, AV.i IntKind.i64 n_14, AV.i IntKind.i64 n_15, AV.i IntKind.i64 n_16, AV.i IntKind.i64 n_17, AV.bo b][(0 : Nat)]? = some (AV.i IntKind.i64 n_18)) ∧ ∃ (n_19 : Int), Holds ([AV.i IntKind.i64 n, AV.i IntKind.i64 n_11, AV.s s, AV.i IntKind.i64 n_12, AV.s s_4, AV.i IntKind.i64 n_13, AV.i IntKind.i64 n_14, AV.i IntKind.i64 n_15, AV.i IntKind.i64 n_16, AV.i IntKind.i64 n_17, AV.bo b][(1 : Nat)]? = some (AV.i IntKind.i64 n_19)) ∧ ∃ (s_5 : ByteArray), ∃ (n_20 : Int), Holds ([AV.s s, AV.i IntKind.i64 n_12] = [AV.s s_5, AV.i IntKind.i64 n_20]) ∧ ∃ (s_6 : ByteArray), ∃ (n_21 : Int), Holds ([AV.s s_4, AV.i IntKind.i64 n_13] = [AV.s s_6, AV.i IntKind.i64 n_21]) ∧ ∃ (n_22 : Int), Holds ([AV.i IntKind.i64 n, AV.i IntKind.i64 n_11, AV.s s, AV.i IntKind.i64 n_12, AV.s s_4, AV.i IntKind.i64 n_13, AV.i IntKind.i64 n_14, AV.i IntKind.i64 n_15, AV.i IntKind.i64 n_16, AV.i IntKind.i64 n_17, AV.bo b][(6 : Nat)]? = some (AV.i IntKind.i64 n_22)) ∧ ∃ (n_23 : Int), Holds ([AV.i IntKind.i64 n, AV.i IntKind.i64 n_11, AV.s s, AV.i IntKind.i64 n_12, AV.s s_4, AV.i IntKind.i64 n_13, AV.i IntKind.i64 n_14, AV.i IntKind.i64 n_15, AV.i IntKind.i64 n_16, AV.i IntKind.i64 n_17, AV.bo b][(7 : Nat)]? = some (AV.i IntKind.i64 n_23)) ∧ ∃ (n_24 : Int), Holds ([AV.i IntKind.i64 n, AV.i IntKind.i64 n_11, AV.s s, AV.i IntKind.i64 n_12, AV.s s_4, AV.i IntKind.i64 n_13, AV.i IntKind.i64 n_14, AV.i IntKind.i64 n_15, AV.i IntKind.i64 n_16, AV.i IntKind.i64 n_17, AV.bo b][(8 : Nat)]? = some (AV.i IntKind.i64 n_24)) ∧ ∃ (n_25 : Int), Holds ([AV.i IntKind.i64 n, AV.i IntKind.i64 n_11, AV.s s, AV.i IntKind.i64 n_12, AV.s s_4, AV.i IntKind.i64 n_13, AV.i IntKind.i64 n_14, AV.i IntKind.i64 n_15, AV.i IntKind.i64 n_16, AV.i IntKind.i64 n_17, AV.bo b][(9 : Nat)]? = some (AV.i IntKind.i64 n_25)) ∧ ∃ (b_1 : Bool), Holds ([AV.i IntKind.i64 n, AV.i IntKind.i64 n_11, AV.s s, AV.i IntKind.i64 n_12, AV.s s_4, AV.i IntKind.i64 n_13, AV.i IntKind.i64 n_14, AV.i IntKind.i64 n_15, AV.i IntKind.i64 n_16, AV.i IntKind.i64 n_17, AV.bo b][(10 : Nat)]? = some (AV.bo b_1)) ∧ Holds ((11 : Nat) ≤ List.length [AV.i IntKind.i64 (0 : Int), AV.i IntKind.i64 (0 : Int), AV.s (⟨#[]⟩ : ByteArray), AV.i IntKind.i64 (0 : Int), AV.s (⟨#[]⟩ : ByteArray), AV.i IntKind.i64 (0 : Int), AV.i IntKind.i64 (0 : Int), AV.i IntKind.i64 (0 : Int), AV.i IntKind.i64 (0 : Int), AV.i IntKind.i64 (0 : Int), AV.bo false]) ∧ Holds ((11 : Nat) ≤ List.length [AV.i IntKind.i64 (0 : Int), AV.i IntKind.i64 (0 : Int), AV.s (⟨#[]⟩ : ByteArray), AV.i IntKind.i64 (0 : Int), AV.s (⟨#[]⟩ : ByteArray), AV.i IntKind.i64 (0 : Int), AV.i IntKind.i64 (0 : Int), AV.i IntKind.i64 (0 : Int), AV.i IntKind.i64 (0 : Int), AV.i IntKind.i64 (0 : Int), AV.bo false]) ∧ ∃ (n_26 : Int), ∃ (n_27 : Int), ∃ (s_7 : ByteArray), ∃ (s_8 : ByteArray), ∃ (n_28 : Int), ∃ (n_29 : Int), Holds ([AV.i IntKind.i64 v0, AV.i IntKind.i64 v1, AV.s v2, AV.s v3, AV.i IntKind.i64 v4, AV.i IntKind.i64 v5] = [AV.i IntKind.i64 n_26, AV.i IntKind.i64 n_27, AV.s s_7, AV.s s_8, AV.i IntKind.i64 n_28, AV.i IntKind.i64 n_29]) ∧ Holds ((6 : Nat) ≤ List.length [AV.i IntKind.i64 (0 : Int), AV.i IntKind.i64 (0 : Int), AV.s (⟨#[]⟩ : ByteArray), AV.s (⟨#[]⟩ : ByteArray), AV.i IntKind.i64 (0 : Int), AV.i IntKind.i64 (0 : Int)]) ∧ ∃ (s_9 : ByteArray), ∃ (n_30 : Int), Holds ([AV.s r2, AV.i IntKind.i64 r3] = [AV.s s_9, AV.i IntKind.i64 n_30]) ∧ ∃ (s_10 : ByteArray), Holds ([AV.i IntKind.i64 v0, AV.i IntKind.i64 v1, AV.s v2, AV.s v3, AV.i IntKind.i64 v4, AV.i IntKind.i64 v5][(2 : Nat)]? = some (AV.s s_10)) ∧ ∃ (s_11 : ByteArray), ∃ (n_31 : Int), Holds ([AV.s s_5, AV.i IntKind.i64 n_20] = [AV.s s_11, AV.i IntKind.i64 n_31]) ∧ ∃ (s_12 : ByteArray), Holds ([AV.i IntKind.i64 v0, AV.i IntKind.i64 v1, AV.s v2, AV.s v3, AV.i IntKind.i64 v4, AV.i IntKind.i64 v5][(2 : Nat)]? = some (AV.s s_12)) ∧ ∀ (b_2 : Bool), Holds (I s_9 n_30 s_10 = b_2) → Holds (ByteArray.size s_11 ≤ (200 : Nat) ∧ ByteArray.size s_12 ≤ (200 : Nat)) ∧ ∀ (b_3 : Bool), Holds (I s_11 n_31 s_12 = b_3) → br (b_2 == b_3) (∃ (s_13 : ByteArray), ∃ (n_32 : Int), Holds ([AV.s r4, AV.i IntKind.i64 r5] = [AV.s s_13, AV.i IntKind.i64 n_32]) ∧ ∃ (s_14 : ByteArray), Holds ([AV.i IntKind.i64 v0, AV.i IntKind.i64 v1, AV.s v2, AV.s v3, AV.i IntKind.i64 v4, AV.i IntKind.i64 v5][(2 : Nat)]? = some (AV.s s_14)) ∧ ∃ (s_15 : ByteArray), ∃ (n_33 : Int), Holds ([AV.s s_6, AV.i IntKind.i64 n_21] = [AV.s s_15, AV.i IntKind.i64 n_33]) ∧ ∃ (s_16 : ByteArray), Holds ([AV.i IntKind.i64 v0, AV.i IntKind.i64 v1, AV.s v2, AV.s v3, AV.i IntKind.i64 v4, AV.i IntKind.i64 v5][(2 : Nat)]? = some (AV.s s_16)) ∧ ∀ (b_4 : Bool), Holds (I s_13 n_32 s_14 = b_4) → Holds (ByteArray.size s_15 ≤ (200 : Nat) ∧ ByteArray.size s_16 ≤ (200 : Nat)) ∧ ∀ (b_5 : Bool), Holds (I s_15 n_33 s_16 = b_5) → br (b_4 == b_5) (∃ (n_34 : Int), ∃ (n_35 : Int), ∃ (s_17 : ByteArray), ∃ (n_36 : Int), ∃ (s_18 : ByteArray), ∃ (n_37 : Int), ∃ (n_38 : Int), ∃ (n_39 : Int), ∃ (n_40 : Int), ∃ (n_41 : Int), ∃ (b_6 : Bool), Holds ([AV.i IntKind.i64 r0, AV.i IntKind.i64 r1, AV.s r2, AV.i IntKind.i64 r3, AV.s r4, AV.i IntKind.i64 r5, AV.i IntKind.i64 r6, AV.i IntKind.i64 r7, AV.i IntKind.i64 r8, AV.i IntKind.i64 r9, AV.bo r10] = [AV.i IntKind.i64 n_34, AV.i IntKind.i64 n_35, AV.s s_17, AV.i IntKind.i64 n_36, AV.s s_18, AV.i IntKind.i64 n_37, AV.i IntKind.i64 n_38, AV.i IntKind.i64 n_39, AV.i IntKind.i64 n_40, AV.i IntKind.i64 n_41, AV.bo b_6]) ∧ ∃ (n_42 : Int), ∃ (n_43 : Int), ∃ (s_19 : ByteArray), ∃ (n_44 : Int), ∃ (s_20 : ByteArray), ∃ (n_45 : Int), ∃ (n_46 : Int), ∃ (n_47 : Int), ∃ (n_48 : Int), ∃ (n_49 : Int), ∃ (b_7 : Bool), Holds ([AV.i IntKind.i64 n_18, AV.i IntKind.i64 n_19, AV.s s_5, AV.i IntKind.i64 n_20, AV.s s_6, AV.i IntKind.i64 n_21, AV.i IntKind.i64 n_22, AV.i IntKind.i64 n_23, AV.i IntKind.i64 n_24, AV.i IntKind.i64 n_25, AV.bo b_1] = [AV.i IntKind.i64 n_42, AV.i IntKind.i64 n_43, AV.s s_19, AV.i IntKind.i64 n_44, AV.s s_20, AV.i IntKind.i64 n_45, AV.i IntKind.i64 n_46, AV.i IntKind.i64 n_47, AV.i IntKind.i64 n_48, AV.i IntKind.i64 n_49, AV.bo b_7]) ∧ ∀ (b_8 : Bool), Holds (G { sd := n_34, pr := n_35, fs := s_17, fn := n_36, ts := s_18, tn := n_37, fl := n_38, fh := n_39, tl := n_40, th := n_41, pass := b_6 } = b_8) → Holds (ByteArray.size s_19 ≤ (200 : Nat) ∧ ByteArray.size s_20 ≤ (200 : Nat)) ∧ ∀ (b_9 : Bool), Holds (G { sd := n_42, pr := n_43, fs := s_19, fn := n_44, ts := s_20, tn := n_45, fl := n_46, fh := n_47, tl := n_48, th := n_49, pass := b_7 } = b_9) → br (b_8 == b_9) (∃ (n_50 : Int), ∃ (n_51 : Int), ∃ (s_21 : ByteArray), ∃ (n_52 : Int), ∃ (s_22 : ByteArray), ∃ (n_53 : Int), ∃ (n_54 : Int), ∃ (n_55 : Int), ∃ (n_56 : Int), ∃ (n_57 : Int), ∃ (b_10 : Bool), Holds ([AV.i IntKind.i64 r0, AV.i IntKind.i64 r1, AV.s r2, AV.i IntKind.i64 r3, AV.s r4, AV.i IntKind.i64 r5, AV.i IntKind.i64 r6, AV.i IntKind.i64 r7, AV.i IntKind.i64 r8, AV.i IntKind.i64 r9, AV.bo r10] = [AV.i IntKind.i64 n_50, AV.i IntKind.i64 n_51, AV.s s_21, AV.i IntKind.i64 n_52, AV.s s_22, AV.i IntKind.i64 n_53, AV.i IntKind.i64 n_54, AV.i IntKind.i64 n_55, AV.i IntKind.i64 n_56, AV.i IntKind.i64 n_57, AV.bo b_10]) ∧ ∃ (n_58 : Int), ∃ (n_59 : Int), ∃ (s_23 : ByteArray), ∃ (s_24 : ByteArray), ∃ (n_60 : Int), ∃ (n_61 : Int), Holds ([AV.i IntKind.i64 v0, AV.i IntKind.i64 v1, AV.s v2, AV.s v3, AV.i IntKind.i64 v4, AV.i IntKind.i64 v5] = [AV.i IntKind.i64 n_58, AV.i IntKind.i64 n_59, AV.s s_23, AV.s s_24, AV.i IntKind.i64 n_60, AV.i IntKind.i64 n_61]) ∧ ∃ (n_62 : Int), ∃ (n_63 : Int), ∃ (s_25 : ByteArray), ∃ (n_64 : Int), ∃ (s_26 : ByteArray), ∃ (n_65 : Int), ∃ (n_66 : Int), ∃ (n_67 : Int), ∃ (n_68 : Int), ∃ (n_69 : Int), ∃ (b_11 : Bool), Holds ([AV.i IntKind.i64 n_18, AV.i IntKind.i64 n_19, AV.s s_5, AV.i IntKind.i64 n_20, AV.s s_6, AV.i IntKind.i64 n_21, AV.i IntKind.i64 n_22, AV.i IntKind.i64 n_23, AV.i IntKind.i64 n_24, AV.i IntKind.i64 n_25, AV.bo b_1] = [AV.i IntKind.i64 n_62, AV.i IntKind.i64 n_63, AV.s s_25, AV.i IntKind.i64 n_64, AV.s s_26, AV.i IntKind.i64 n_65, AV.i IntKind.i64 n_66, AV.i IntKind.i64 n_67, AV.i IntKind.i64 n_68, AV.i IntKind.i64 n_69, AV.bo b_11]) ∧ ∃ (n_70 : Int), ∃ (n_71 : Int), ∃ (s_27 : ByteArray), ∃ (s_28 : ByteArray), ∃ (n_72 : Int), ∃ (n_73 : Int), Holds ([AV.i IntKind.i64 n_26, AV.i IntKind.i64 n_27, AV.s s_7, AV.s s_8, AV.i IntKind.i64 n_28, AV.i IntKind.i64 n_29] = [AV.i IntKind.i64 n_70, AV.i IntKind.i64 n_71, AV.s s_27, AV.s s_28, AV.i IntKind.i64 n_72, AV.i IntKind.i64 n_73]) ∧ ∀ (b_12 : Bool), Holds (F { sd := n_50, pr := n_51, fs := s_21, fn := n_52, ts := s_22, tn := n_53, fl := n_54, fh := n_55, tl := n_56, th := n_57, pass := b_10 } { sd := n_58, pr := n_59, f := s_23, t := s_24, fp := n_60, tp := n_61 } = b_12) → Holds (ByteArray.size s_25 ≤ (200 : Nat) ∧ ByteArray.size s_26 ≤ (200 : Nat) ∧ ByteArray.size s_27 ≤ (200 : Nat) ∧ ByteArray.size s_28 ≤ (200 : Nat)) ∧ ∀ (b_13 : Bool), Holds (F { sd := n_62, pr := n_63, fs := s_25, fn := n_64, ts := s_26, tn := n_65, fl := n_66, fh := n_67, tl := n_68, th := n_69, pass := b_11 } { sd := n_70, pr := n_71, f := s_27, t := s_28, fp := n_72, tp := n_73 } = b_13) → br (b_12 == b_13) (R (AV.bo true) [Blk.cells [AV.i IntKind.i64 r0, AV.i IntKind.i64 r1, AV.s r2, AV.i IntKind.i64 r3, AV.s r4, AV.i IntKind.i64 r5, AV.i IntKind.i64 r6, AV.i IntKind.i64 r7, AV.i IntKind.i64 r8, AV.i IntKind.i64 r9, AV.bo r10] true, Blk.cells [AV.i IntKind.i64 v0, AV.i IntKind.i64 v1, AV.s v2, AV.s v3, AV.i IntKind.i64 v4, AV.i IntKind.i64 v5] true, Blk.cells [AV.i IntKind.i64 n, AV.i IntKind.i64 n_11, AV.s s, AV.i IntKind.i64 n_12, AV.s s_4, AV.i IntKind.i64 n_13, AV.i IntKind.i64 n_14, AV.i IntKind.i64 n_15, AV.i IntKind.i64 n_16, AV.i IntKind.i64 n_17, AV.bo b] true, Blk.cells [AV.i IntKind.i64 n_18, AV.i IntKind.i64 n_19, AV.s s_5, AV.i IntKind.i64 n_20, AV.s s_6, AV.i IntKind.i64 n_21, AV.i IntKind.i64 n_22, AV.i IntKind.i64 n_23, AV.i IntKind.i64 n_24, AV.i IntKind.i64 n_25, AV.bo b_1] true, Blk.cells [AV.i IntKind.i64 n_18, AV.i IntKind.i64 n_19, AV.s s_5, AV.i IntKind.i64 n_20, AV.s s_6, AV.i IntKind.i64 n_21, AV.i IntKind.i64 n_22, AV.i IntKind.i64 n_23, AV.i IntKind.i64 n_24, AV.i IntKind.i64 n_25, AV.bo b_1] true, Blk.cells [AV.i IntKind.i64 n_26, AV.i IntKind.i64 n_27, AV.s s_7, AV.s s_8, AV.i IntKind.i64 n_28, AV.i IntKind.i64 n_29] true]) (R (AV.bo false) [Blk.cells [AV.i IntKind.i64 r0, AV.i IntKind.i64 r1, AV.s r2, AV.i IntKind.i64 r3, AV.s r4, AV.i IntKind.i64 r5, AV.i IntKind.i64 r6, AV.i IntKind.i64 r7, AV.i IntKind.i64 r8, AV.i IntKind.i64 r9, AV.bo r10] true, Blk.cells [AV.i IntKind.i64 v0, AV.i IntKind.i64 v1, AV.s v2, AV.s v3, AV.i IntKind.i64 v4, AV.i IntKind.i64 v5] true, Blk.cells [AV.i IntKind.i64 n, AV.i IntKind.i64 n_11, AV.s s, AV.i IntKind.i64 n_12, AV.s s_4, AV.i IntKind.i64 n_13, AV.i IntKind.i64 n_14, AV.i IntKind.i64 n_15, AV.i IntKind.i64 n_16, AV.i IntKind.i64 n_17, AV.bo b] true, Blk.cells [AV.i IntKind.i64 n_18, AV.i IntKind.i64 n_19, AV.s s_5, AV.i IntKind.i64 n_20, AV.s s_6, AV.i IntKind.i64 n_21, AV.i IntKind.i64 n_22, AV.i IntKind.i64 n_23, AV.i IntKind.i64 n_24, AV.i IntKind.i64 n_25, AV.bo b_1] true, Blk.cells [AV.i IntKind.i64 n_18, AV.i IntKind.i64 n_19, AV.s s_5, AV.i IntKind.i64 n_20, AV.s s_6, AV.i IntKind.i64 n_21, AV.i IntKind.i64 n_22, AV.i IntKind.i64 n_23, AV.i IntKind.i64 n_24, AV.i IntKind.i64 n_25, AV.bo b_1] true, Blk.cells [AV.i IntKind.i64 n_26, AV.i IntKind.i64 n_27, AV.s s_7, AV.s s_8, AV.i IntKind.i64 n_28, AV.i IntKind.i64 n_29] true])) (R (AV.bo false) [Blk.cells [AV.i IntKind.i64 r0, AV.i IntKind.i64 r1, AV.s r2, AV.i IntKind.i64 r3, AV.s r4, AV.i IntKind.i64 r5, AV.i IntKind.i64 r6, AV.i IntKind.i64 r7, AV.i IntKind.i64 r8, AV.i IntKind.i64 r9, AV.bo r10] true, Blk.cells [AV.i IntKind.i64 v0, AV.i IntKind.i64 v1, AV.s v2, AV.s v3, AV.i IntKind.i64 v4, AV.i IntKind.i64 v5] true, Blk.cells [AV.i IntKind.i64 n, AV.i IntKind.i64 n_11, AV.s s, AV.i IntKind.i64 n_12, AV.s s_4, AV.i IntKind.i64 n_13, AV.i IntKind.i64 n_14, AV.i IntKind.i64 n_15, AV.i IntKind.i64 n_16, AV.i IntKind.i64 n_17, AV.bo b] true, Blk.cells [AV.i IntKind.i64 n_18, AV.i IntKind.i64 n_19, AV.s s_5, AV.i IntKind.i64 n_20, AV.s s_6, AV.i IntKind.i64 n_21, AV.i IntKind.i64 n_22, AV.i IntKind.i64 n_23, AV.i IntKind.i64 n_24, AV.i IntKind.i64 n_25, AV.bo b_1] true, Blk.cells [AV.i IntKind.i64 n_18, AV.i IntKind.i64 n_19, AV.s s_5, AV.i IntKind.i64 n_20, AV.s s_6, AV.i IntKind.i64 n_21, AV.i IntKind.i64 n_22, AV.i IntKind.i64 n_23, AV.i IntKind.i64 n_24, AV.i IntKind.i64 n_25, AV.bo b_1] true, Blk.cells [AV.i IntKind.i64 n_26, AV.i IntKind.i64 n_27, AV.s s_7, AV.s s_8, AV.i IntKind.i64 n_28, AV.i IntKind.i64 n_29] true])) (R (AV.bo false) [Blk.cells [AV.i IntKind.i64 r0, AV.i IntKind.i64 r1, AV.s r2, AV.i IntKind.i64 r3, AV.s r4, AV.i IntKind.i64 r5, AV.i IntKind.i64 r6, AV.i IntKind.i64 r7, AV.i IntKind.i64 r8, AV.i IntKind.i64 r9, AV.bo r10] true, Blk.cells [AV.i IntKind.i64 v0, AV.i IntKind.i64 v1, AV.s v2, AV.s v3, AV.i IntKind.i64 v4, AV.i IntKind.i64 v5] true, Blk.cells [AV.i IntKind.i64 n, AV.i IntKind.i64 n_11, AV.s s, AV.i IntKind.i64 n_12, AV.s s_4, AV.i IntKind.i64 n_13, AV.i IntKind.i64 n_14, AV.i IntKind.i64 n_15, AV.i IntKind.i64 n_16, AV.i IntKind.i64 n_17, AV.bo b] true, Blk.cells [AV.i IntKind.i64 n_18, AV.i IntKind.i64 n_19, AV.s s_5, AV.i IntKind.i64 n_20, AV.s s_6, AV.i IntKind.i64 n_21, AV.i IntKind.i64 n_22, AV.i IntKind.i64 n_23, AV.i IntKind.i64 n_24, AV.i IntKind.i64 n_25, AV.bo b_1] true, Blk.cells [AV.i IntKind.i64 n_18, AV.i IntKind.i64 n_19, AV.s s_5, AV.i IntKind.i64 n_20, AV.s s_6, AV.i IntKind.i64 n_21, AV.i IntKind.i64 n_22, AV.i IntKind.i64 n_23, AV.i IntKind.i64 n_24, AV.i IntKind.i64 n_25, AV.bo b_1] true, Blk.cells [AV.i IntKind.i64 n_26, AV.i IntKind.i64 n_27, AV.s s_7, AV.s s_8, AV.i IntKind.i64 n_28, AV.i IntKind.i64 n_29] true])) (R (AV.bo false) [Blk.cells [AV.i IntKind.i64 r0, AV.i IntKind.i64 r1, AV.s r2, AV.i IntKind.i64 r3, AV.s r4, AV.i IntKind.i64 r5, AV.i IntKind.i64 r6, AV.i IntKind.i64 r7, AV.i IntKind.i64 r8, AV.i IntKind.i64 r9, AV.bo r10] true, Blk.cells [AV.i IntKind.i64 v0, AV.i IntKind.i64 v1, AV.s v2, AV.s v3, AV.i IntKind.i64 v4, AV.i IntKind.i64 v5] true, Blk.cells [AV.i IntKind.i64 n, AV.i IntKind.i64 n_11, AV.s s, AV.i IntKind.i64 n_12, AV.s s_4, AV.i IntKind.i64 n_13, AV.i IntKind.i64 n_14, AV.i IntKind.i64 n_15, AV.i IntKind.i64 n_16, AV.i IntKind.i64 n_17, AV.bo b] true, Blk.cells [AV.i IntKind.i64 n_18, AV.i IntKind.i64 n_19, AV.s s_5, AV.i IntKind.i64 n_20, AV.s s_6, AV.i IntKind.i64 n_21, AV.i IntKind.i64 n_22, AV.i IntKind.i64 n_23, AV.i IntKind.i64 n_24, AV.i IntKind.i64 n_25, AV.bo b_1] true, Blk.cells [AV.i IntKind.i64 n_18, AV.i IntKind.i64 n_19, AV.s s_5, AV.i IntKind.i64 n_20, AV.s s_6, AV.i IntKind.i64 n_21, AV.i IntKind.i64 n_22, AV.i IntKind.i64 n_23, AV.i IntKind.i64 n_24, AV.i IntKind.i64 n_25, AV.bo b_1] true, Blk.cells [AV.i IntKind.i64 n_26, AV.i IntKind.i64 n_27, AV.s s_7, AV.s s_8, AV.i IntKind.i64 n_28, AV.i IntKind.i64 n_29] true]))) := by kernel_rfl
theorem size_all {a b c d : Nat} (h : (decide (200 < a) || (decide (200 < b) || (decide (200 < c) || decide (200 < d)))) = false) : a ≤ 200 ∧ b ≤ 200 ∧ c ≤ 200 ∧ d ≤ 200 := by
  simp only [Bool.or_eq_false_iff, decide_eq_false_iff_not] at h
  omega
set_option maxRecDepth 100000 in
theorem run3 (r : RuleV) (v : ViewV) : Holds (wpFn P (T3 inB rightB fitsB) W3 noL 0 Go.Proofs.Try.f3 [mkR r, mkV v] [] fun x _ => x = .bo true) := by
  refine ⟨?_⟩
  obtain ⟨r0, r1, r2, r3, r4, r5, r6, r7, r8, r9, r10⟩ := r
  obtain ⟨v0, v1, v2, v3, v4, v5⟩ := v
  unfold mkR mkV
  rw [vc3]
  refine ⟨_, _, _, _, _, _, _, _, _, _, _, ⟨rfl⟩, _, _, _, _, _, _, ⟨rfl⟩, ?_⟩
  rintro b ⟨hg⟩
  refine br_intro (fun _ => rfl) (fun h => ?_)
  rw [h] at hg
  obtain ⟨hf, ht, hvf, hvt⟩ := size_all hg
  refine ⟨_, _, _, _, _, _, _, _, _, _, _, ⟨rfl⟩, _, ⟨rfl⟩, _, ⟨rfl⟩, _, _, ⟨rfl⟩, _, _, ⟨rfl⟩, _, ⟨rfl⟩, _, ⟨rfl⟩, _, ⟨rfl⟩, _, ⟨rfl⟩, _, ⟨rfl⟩, ⟨by decide⟩, ⟨by decide⟩, _, _, _, _, _, _, ⟨rfl⟩, ⟨by decide⟩, _, _, ⟨rfl⟩, _, ⟨rfl⟩, _, _, ⟨rfl⟩, _, ⟨rfl⟩, ?_⟩
  rintro b2 ⟨rfl⟩
  refine ⟨⟨⟨hf, hvf⟩⟩, ?_⟩
  rintro b3 ⟨rfl⟩
  rw [beq_self_eq_true, br_true]
  refine ⟨_, _, ⟨rfl⟩, _, ⟨rfl⟩, _, _, ⟨rfl⟩, _, ⟨rfl⟩, ?_⟩
  rintro b2 ⟨rfl⟩
  refine ⟨⟨⟨ht, hvf⟩⟩, ?_⟩
  rintro b3 ⟨rfl⟩
  rw [beq_self_eq_true, br_true]
  refine ⟨_, _, _, _, _, _, _, _, _, _, _, ⟨rfl⟩, _, _, _, _, _, _, _, _, _, _, _, ⟨rfl⟩, ?_⟩
  rintro b2 ⟨rfl⟩
  refine ⟨⟨⟨hf, ht⟩⟩, ?_⟩
  rintro b3 ⟨rfl⟩
  rw [beq_self_eq_true, br_true]
  refine ⟨_, _, _, _, _, _, _, _, _, _, _, ⟨rfl⟩, _, _, _, _, _, _, ⟨rfl⟩, _, _, _, _, _, _, _, _, _, _, _, ⟨rfl⟩, _, _, _, _, _, _, ⟨rfl⟩, ?_⟩
  rintro b2 ⟨rfl⟩
  refine ⟨⟨⟨hf, ht, hvf, hvt⟩⟩, ?_⟩
  rintro b3 ⟨rfl⟩
  rw [beq_self_eq_true, br_true]
def mkRl (r : RuleV) : List AV := [mkR r]
theorem mkRl_inj (x y : RuleV) (h : mkRl x = mkRl y) : x = y := by
  simp only [mkRl, List.cons.injEq, and_true] at h
  exact mkR_inj h
def mk2 (q : Int × Int) : List AV := [.i .i64 q.1, .i .i64 q.2]
def mk3 (q : Int × Int × Int) : List AV := [.i .i64 q.1, .i .i64 q.2.1, .i .i64 q.2.2]
def mk1 (s : ByteArray) : List AV := [.s s]
theorem mk2_inj (x y : Int × Int) (h : mk2 x = mk2 y) : x = y := by
  obtain ⟨a, b⟩ := x; obtain ⟨c, d⟩ := y
  simp only [mk2, List.cons.injEq, AV.i.injEq, true_and, and_true] at h
  rw [h.1, h.2]
theorem mk3_inj (x y : Int × Int × Int) (h : mk3 x = mk3 y) : x = y := by
  obtain ⟨a, b, e⟩ := x; obtain ⟨c, d, f⟩ := y
  simp only [mk3, List.cons.injEq, AV.i.injEq, true_and, and_true] at h
  rw [h.1, h.2.1, h.2.2]
theorem mk1_inj (x y : ByteArray) (h : mk1 x = mk1 y) : x = y := by
  simp only [mk1, List.cons.injEq, AV.s.injEq, and_true] at h
  exact h
abbrev CPorts := Splain mk2 (fun _ => True) fun q => .bo (portsB q.1 q.2)
abbrev CPort := Splain mk3 (fun _ => True) fun q => .bo (portB q.1 q.2.1 q.2.2)
abbrev CRule := Splain mkRl (fun _ => True) fun r => .bo (rightB r)
abbrev CFits := Splain mkRV (fun _ => True) fun q => .bo (fitsB q.1 q.2)
abbrev CText := Splain mk1 (fun s => s.size ≤ 200) fun s => .s (bitsS s)
abbrev CNetR := Splain mkN (fun q => q.1.size ≤ 200) fun q => .bo (netB q.1 q.2)
abbrev CInR := Splain mkNS (fun q => q.1.size ≤ 200 ∧ q.2.2.size ≤ 200) fun q => .bo (inB q.1 q.2.1 q.2.2)
abbrev CRuleR := Splain mkRl (fun r => r.fs.size ≤ 200 ∧ r.ts.size ≤ 200) fun r => .bo (rightB r)
abbrev CFitsR := Splain mkRV (fun q => q.1.fs.size ≤ 200 ∧ q.1.ts.size ≤ 200 ∧ q.2.f.size ≤ 200 ∧ q.2.t.size ≤ 200) fun q => .bo (fitsB q.1 q.2)
theorem tports_f : FollowsF (tports portsB) (Cof CPorts) := by
  refine follows_of (Splain.det mk2_inj) fun args h K hk => ?_
  unfold tports at hk
  split at hk
  · rename_i a b
    exact ⟨_, _, ⟨rfl, (a, b), rfl, trivial, rfl⟩, hk _ ⟨rfl⟩⟩
  · exact hk.elim
theorem tport_f : FollowsF (tport portB) (Cof CPort) := by
  refine follows_of (Splain.det mk3_inj) fun args h K hk => ?_
  unfold tport at hk
  split at hk
  · rename_i a b c
    exact ⟨_, _, ⟨rfl, (a, b, c), rfl, trivial, rfl⟩, hk _ ⟨rfl⟩⟩
  · exact hk.elim
theorem trule_f : FollowsF (trule rightB) (Cof CRule) := by
  refine follows_of (Splain.det mkRl_inj) fun args h K hk => ?_
  unfold trule at hk
  split at hk
  · rename_i r0 r1 r2 r3 r4 r5 r6 r7 r8 r9 r10
    exact ⟨_, _, ⟨rfl, ⟨r0, r1, r2, r3, r4, r5, r6, r7, r8, r9, r10⟩, rfl, trivial, rfl⟩, hk _ ⟨rfl⟩⟩
  · exact hk.elim
theorem truleR_f : FollowsF (truleR rightB) (Cof CRuleR) := by
  refine follows_of (Splain.det mkRl_inj) fun args h K hk => ?_
  unfold truleR at hk
  split at hk
  · rename_i r0 r1 r2 r3 r4 r5 r6 r7 r8 r9 r10
    exact ⟨_, _, ⟨rfl, ⟨r0, r1, r2, r3, r4, r5, r6, r7, r8, r9, r10⟩, rfl, hk.1.out, rfl⟩, hk.2 _ ⟨rfl⟩⟩
  · exact hk.elim
theorem tfits_f : FollowsF (tfits fitsB) (Cof CFits) := by
  refine follows_of (Splain.det mkRV_inj) fun args h K hk => ?_
  unfold tfits at hk
  split at hk
  · rename_i r0 r1 r2 r3 r4 r5 r6 r7 r8 r9 r10 v0 v1 v2 v3 v4 v5
    exact ⟨_, _, ⟨rfl, (⟨r0, r1, r2, r3, r4, r5, r6, r7, r8, r9, r10⟩, ⟨v0, v1, v2, v3, v4, v5⟩), rfl, trivial, rfl⟩, hk _ ⟨rfl⟩⟩
  · exact hk.elim
theorem tfitsR_f : FollowsF (tfitsR fitsB) (Cof CFitsR) := by
  refine follows_of (Splain.det mkRV_inj) fun args h K hk => ?_
  unfold tfitsR at hk
  split at hk
  · rename_i r0 r1 r2 r3 r4 r5 r6 r7 r8 r9 r10 v0 v1 v2 v3 v4 v5
    exact ⟨_, _, ⟨rfl, (⟨r0, r1, r2, r3, r4, r5, r6, r7, r8, r9, r10⟩, ⟨v0, v1, v2, v3, v4, v5⟩), rfl, hk.1.out, rfl⟩, hk.2 _ ⟨rfl⟩⟩
  · exact hk.elim
theorem ttext_f : FollowsF (ttext bitsS) (Cof CText) := by
  refine follows_of (Splain.det mk1_inj) fun args h K hk => ?_
  unfold ttext at hk
  split at hk
  · exact ⟨_, _, ⟨rfl, _, rfl, hk.1.out, rfl⟩, hk.2 _ ⟨rfl⟩⟩
  · exact hk.elim
theorem tnetR_f : FollowsF (tnetR netB) (Cof CNetR) := by
  refine follows_of (Splain.det mkN_inj) fun args h K hk => ?_
  unfold tnetR at hk
  split at hk
  · rename_i s n
    exact ⟨_, _, ⟨rfl, (s, n), rfl, hk.1.out, rfl⟩, hk.2 _ ⟨rfl⟩⟩
  · exact hk.elim
theorem tinR_f : FollowsF (tinR inB) (Cof CInR) := by
  refine follows_of (Splain.det mkNS_inj) fun args h K hk => ?_
  unfold tinR at hk
  split at hk
  · rename_i s n a
    exact ⟨_, _, ⟨rfl, (s, n, a), rfl, hk.1.out, rfl⟩, hk.2 _ ⟨rfl⟩⟩
  · exact hk.elim
theorem fn31 : fnOk1 P noW 31 Go.Proofs.Try.f31 := ⟨Go.Proofs.Try.func31, by kernel_rfl, by kernel_rfl, by kernel_rfl⟩
theorem fn38 : fnOk1 P noW 38 Go.Proofs.Try.f38 := ⟨Go.Proofs.Try.func38, by kernel_rfl, by kernel_rfl, by kernel_rfl⟩
theorem fn41 : fnOk1 P noW 41 Go.Proofs.Try.f41 := ⟨Go.Proofs.Try.func41, by kernel_rfl, by kernel_rfl, by kernel_rfl⟩
theorem fn14 : fnOk1 P W14 14 Go.Proofs.Try.f14 := ⟨Go.Proofs.Try.func14, by kernel_rfl, by kernel_rfl, by kernel_rfl⟩
theorem fn32 : fnOk1 P noW 32 Go.Proofs.Try.f32 := ⟨Go.Proofs.Try.func32, by kernel_rfl, by kernel_rfl, by kernel_rfl⟩
theorem fn16 : fnOk1 P noW 16 Go.Proofs.Try.f16 := ⟨Go.Proofs.Try.func16, by kernel_rfl, by kernel_rfl, by kernel_rfl⟩
theorem fn33 : fnOk1 P noW 33 Go.Proofs.Try.f33 := ⟨Go.Proofs.Try.func33, by kernel_rfl, by kernel_rfl, by kernel_rfl⟩
theorem fn34 : fnOk1 P noW 34 Go.Proofs.Try.f34 := ⟨Go.Proofs.Try.func34, by kernel_rfl, by kernel_rfl, by kernel_rfl⟩
theorem fn35 : fnOk1 P noW 35 Go.Proofs.Try.f35 := ⟨Go.Proofs.Try.func35, by kernel_rfl, by kernel_rfl, by kernel_rfl⟩
theorem fn36 : fnOk1 P noW 36 Go.Proofs.Try.f36 := ⟨Go.Proofs.Try.func36, by kernel_rfl, by kernel_rfl, by kernel_rfl⟩
theorem fn37 : fnOk1 P noW 37 Go.Proofs.Try.f37 := ⟨Go.Proofs.Try.func37, by kernel_rfl, by kernel_rfl, by kernel_rfl⟩
theorem fn39 : fnOk1 P noW 39 Go.Proofs.Try.f39 := ⟨Go.Proofs.Try.func39, by kernel_rfl, by kernel_rfl, by kernel_rfl⟩
theorem fn40 : fnOk1 P noW 40 Go.Proofs.Try.f40 := ⟨Go.Proofs.Try.func40, by kernel_rfl, by kernel_rfl, by kernel_rfl⟩
theorem fn47 : fnOk1 P noW 47 Go.Proofs.Try.f47 := ⟨Go.Proofs.Try.func47, by kernel_rfl, by kernel_rfl, by kernel_rfl⟩
theorem fn30 : fnOk1 P noW 30 Go.Proofs.Try.f30 := ⟨Go.Proofs.Try.func30, by kernel_rfl, by kernel_rfl, by kernel_rfl⟩
theorem fn29 : fnOk1 P noW 29 Go.Proofs.Try.f29 := ⟨Go.Proofs.Try.func29, by kernel_rfl, by kernel_rfl, by kernel_rfl⟩
theorem fn13 : fnOk1 P W13 13 Go.Proofs.Try.f13 := ⟨Go.Proofs.Try.func13, by kernel_rfl, by kernel_rfl, by kernel_rfl⟩
theorem fn15 : fnOk1 P noW 15 Go.Proofs.Try.f15 := ⟨Go.Proofs.Try.func15, by kernel_rfl, by kernel_rfl, by kernel_rfl⟩
theorem fn17 : fnOk1 P noW 17 Go.Proofs.Try.f17 := ⟨Go.Proofs.Try.func17, by kernel_rfl, by kernel_rfl, by kernel_rfl⟩
theorem fn11 : fnOk1 P noW 11 Go.Proofs.Try.f11 := ⟨Go.Proofs.Try.func11, by kernel_rfl, by kernel_rfl, by kernel_rfl⟩
theorem fn3 : fnOk1 P W3 3 Go.Proofs.Try.f3 := ⟨Go.Proofs.Try.func3, by kernel_rfl, by kernel_rfl, by kernel_rfl⟩
set_option maxRecDepth 100000 in
theorem ports_s : SoundF P 31 (Cof CPorts) := SoundF.plain (follows_nil _) (noEnv_sound _) mo fn31 (fun _ => rfl) (fun _ => rfl) fun q _ => ⟨noL, 0, run31 q.1 q.2⟩
set_option maxRecDepth 100000 in
theorem port_s : SoundF P 38 (Cof CPort) := SoundF.plain (follows_nil _) (noEnv_sound _) mo fn38 (fun _ => rfl) (fun _ => rfl) fun q _ => ⟨noL, 0, run38 q.1 q.2.1 q.2.2⟩
set_option maxRecDepth 100000 in
theorem port41_s : SoundF P 41 (Cof CPort) := SoundF.plain (follows_nil _) (noEnv_sound _) mo fn41 (fun _ => rfl) (fun _ => rfl) fun q _ => ⟨noL, 0, run41 q.1 q.2.1 q.2.2⟩
noncomputable abbrev Γ14 : Env := with1 26 (Cof (CNet netB)) (with1 31 (Cof CPorts) (with1 32 (Cinl P noEnv noW Go.Proofs.Try.f32) noEnv))
theorem Γ14_s : Sound P Γ14 := with1_sound fn26.ok net_s (with1_sound fn31.ok ports_s (with1_sound fn32.ok (inl_s (noEnv_sound _) mo fn32) (noEnv_sound _)))
theorem Γ14_f : Follows (T14 netB portsB) Γ14 := follows_cons (tnetS_f _) (follows_cons tports_f (follows_cons (tinl_f (follows_nil _) fn32) (follows_nil _)))
set_option maxRecDepth 100000 in
theorem rule_s : SoundF P 14 (Cof CRule) := SoundF.plainH Γ14_f Γ14_s mo fn14 (fun _ => rfl) (fun _ => rfl) noL fun r _ => run14 r
noncomputable abbrev Γ33 : Env := with1 14 (Cof CRule) noEnv
theorem Γ33_s : Sound P Γ33 := with1_sound fn14.ok rule_s (noEnv_sound _)
noncomputable abbrev Γ36 : Env := with1 12 (Cof CIn) noEnv
theorem Γ36_s : Sound P Γ36 := with1_sound fn12.ok in_s (noEnv_sound _)
noncomputable abbrev Γ37 : Env := with1 38 (Cof CPort) noEnv
theorem Γ37_s : Sound P Γ37 := with1_sound fn38.ok port_s (noEnv_sound _)
noncomputable abbrev Γ40 : Env := with1 33 (Cinl P Γ33 noW Go.Proofs.Try.f33) (with1 34 (Cinl P noEnv noW Go.Proofs.Try.f34) (with1 35 (Cinl P noEnv noW Go.Proofs.Try.f35) (with1 36 (Cinl P Γ36 noW Go.Proofs.Try.f36) (with1 37 (Cinl P Γ37 noW Go.Proofs.Try.f37) noEnv))))
theorem Γ40_s : Sound P Γ40 := with1_sound fn33.ok (inl_s Γ33_s mo fn33) (with1_sound fn34.ok (inl_s (noEnv_sound _) mo fn34) (with1_sound fn35.ok (inl_s (noEnv_sound _) mo fn35) (with1_sound fn36.ok (inl_s Γ36_s mo fn36) (with1_sound fn37.ok (inl_s Γ37_s mo fn37) (noEnv_sound _)))))
theorem Γ40_f : Follows (T40 rightB inB portB) Γ40 := follows_cons (tinl_f (follows_cons trule_f (follows_nil _)) fn33) (follows_cons (tinl_f (follows_nil _) fn34) (follows_cons (tinl_f (follows_nil _) fn35) (follows_cons (tinl_f (follows_cons tinS_f (follows_nil _)) fn36) (follows_cons (tinl_f (follows_cons tport_f (follows_nil _)) fn37) (follows_nil _)))))
noncomputable abbrev Γ47 : Env := with1 40 (Cinl P Γ40 noW Go.Proofs.Try.f40) noEnv
theorem Γ47_s : Sound P Γ47 := with1_sound fn40.ok (inl_s Γ40_s mo fn40) (noEnv_sound _)
noncomputable abbrev Γ39 : Env := with1 47 (Cinl P Γ47 noW Go.Proofs.Try.f47) noEnv
theorem Γ39_s : Sound P Γ39 := with1_sound fn47.ok (inl_s Γ47_s mo fn47) (noEnv_sound _)
noncomputable abbrev Γ16 : Env := with1 39 (Cinl P Γ39 noW Go.Proofs.Try.f39) noEnv
theorem Γ16_s : Sound P Γ16 := with1_sound fn39.ok (inl_s Γ39_s mo fn39) (noEnv_sound _)
theorem Γ16_f : Follows (T16 rightB inB portB) Γ16 := follows_cons (tinl_f (follows_cons (tinl_f (follows_cons (tinl_f Γ40_f fn40) (follows_nil _)) fn47) (follows_nil _)) fn39) (follows_nil _)
set_option maxRecDepth 100000 in
theorem fits_s : SoundF P 16 (Cof CFits) := SoundF.plainH Γ16_f Γ16_s mo fn16 (fun _ => rfl) (fun _ => rfl) noL fun q _ => run16 q.1 q.2
set_option maxRecDepth 100000 in
theorem text_s : SoundF P 30 (Cof CText) := SoundF.plain (follows_nil _) (noEnv_sound _) mo fn30 (fun _ => rfl) (fun _ => rfl) fun s hs => ⟨head30 s, 0, run30 hs⟩
set_option maxRecDepth 100000 in
theorem netR_s : SoundF P 29 (Cof CNetR) := SoundF.plain (follows_cons ttext_f (follows_nil _)) (with1_sound fn30.ok text_s (noEnv_sound _)) mo fn29 (fun _ => rfl) (fun _ => rfl) fun q hq => ⟨head29 q.1 q.2, 0, (run29 q.2 hq).out⟩
set_option maxRecDepth 100000 in
theorem inR_s : SoundF P 13 (Cof CInR) := SoundF.plain (follows_cons tnetR_f (follows_cons ttext_f (follows_nil _))) (with1_sound fn29.ok netR_s (with1_sound fn30.ok text_s (noEnv_sound _))) mo fn13 (fun _ => rfl) (fun _ => rfl) fun q hq => ⟨head13 q.1 q.2.1 q.2.2, 0, (run13 q.2.1 hq.1 hq.2).out⟩
set_option maxRecDepth 100000 in
theorem ruleR_s : SoundF P 15 (Cof CRuleR) := SoundF.plainH (follows_cons tnetR_f (follows_nil _)) (with1_sound fn29.ok netR_s (noEnv_sound _)) mo fn15 (fun _ => rfl) (fun _ => rfl) noL fun r hr => run15 r hr.1 hr.2
set_option maxRecDepth 100000 in
theorem fitsR_s : SoundF P 17 (Cof CFitsR) := SoundF.plainH (follows_cons truleR_f (follows_cons tinR_f (follows_cons tport_f (follows_nil _)))) (with1_sound fn15.ok ruleR_s (with1_sound fn13.ok inR_s (with1_sound fn41.ok port41_s (noEnv_sound _)))) mo fn17 (fun _ => rfl) (fun _ => rfl) noL fun q hq => run17 q.1 q.2 hq.1 hq.2.1 hq.2.2.1 hq.2.2.2
noncomputable abbrev Γ3 : Env := with1 9 (Cof CGreat) (with1 10 (Cconst (.bo true)) (with1 11 (Cinl P noEnv noW Go.Proofs.Try.f11) (with1 12 (Cof CIn) (with1 13 (Cof CInR) (with1 14 (Cof CRule) (with1 15 (Cof CRuleR) (with1 16 (Cof CFits) (with1 17 (Cof CFitsR) noEnv))))))))
theorem Γ3_s : Sound P Γ3 := with1_sound fn9.ok great_s (with1_sound (fnOkB_ok (by kernel_rfl)) awake_s (with1_sound fn11.ok (inl_s (noEnv_sound _) mo fn11) (with1_sound fn12.ok in_s (with1_sound fn13.ok inR_s (with1_sound fn14.ok rule_s (with1_sound fn15.ok ruleR_s (with1_sound fn16.ok fits_s (with1_sound fn17.ok fitsR_s (noEnv_sound _)))))))))
theorem Γ3_f : Follows (T3 inB rightB fitsB) Γ3 := follows_cons tgreat_f (follows_cons (follows_const _) (follows_cons (tinl_f (follows_nil _) fn11) (follows_cons tinS_f (follows_cons tinR_f (follows_cons trule_f (follows_cons truleR_f (follows_cons tfits_f (follows_cons tfitsR_f (follows_nil _)))))))))
end Go.Proofs.Ytfnbbgnknkondaa.RulesRun
