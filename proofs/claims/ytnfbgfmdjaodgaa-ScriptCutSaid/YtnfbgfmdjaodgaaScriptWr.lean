/- What is written. -/
import Derived.Test.YtnfbgfmdjaodgaaScriptLaw
set_option linter.unusedVariables false
set_option linter.unusedSimpArgs false
open Go Go.Proofs.Ytnfbgfmdjaodgaa.Eng Go.RowKit
namespace Go.Proofs.Ytnfbgfmdjaodgaa.ScriptRun
theorem vl8 (De : List UInt8 → List Ev) (DeS : ByteArray → List Ev) (Sm : List Ev → List Ev → Bool) (bl : List Ev → List UInt8) (er : List Ev → Int) (Gr : List Ev → Bool) (nn : List Ev → Int) (ov : Ev → Bool) (len cap : Nat) (c : List AV) (R : AV → Hp → Prop) : (wpFn P (TL De DeS Sm bl er Gr nn ov) W8 (head8 (.sl 0 0 len 3 (some cap)) 1 [.cells c false]) 1 Go.Proofs.Try.f8 [.sl 0 0 len 3 (some cap)] [.cells c false] R) = (Holds (len ≤ cap) ∧ Holds ((0 : Nat) + len * (3 : Nat) ≤ List.length c) ∧ ∃ (l : List Ev), Holds (List.take (len * (3 : Nat)) c = recs mkEv l) ∧ Holds (List.length l = len) ∧ Holds (okLG ((), l)) ∧ br (Gr l) (R (AV.bo true) [Blk.cells c false]) (Holds (len ≤ cap) ∧ Holds ((0 : Nat) + len * (3 : Nat) ≤ List.length c) ∧ ∃ (l : List Ev), Holds (List.take (len * (3 : Nat)) c = recs mkEv l) ∧ Holds (List.length l = len) ∧ Holds (okLE ((), l)) ∧ (Holds (bl l = []) → Holds (len ≤ cap) ∧ Holds ((0 : Nat) + len * (3 : Nat) ≤ List.length c) ∧ ∃ (l_1 : List Ev), Holds (List.take (len * (3 : Nat)) c = recs mkEv l_1) ∧ Holds (List.length l_1 = len) ∧ Holds (okLE ((), l_1)) ∧ br (er (Prod.snd ((), l)) != er (Prod.snd ((), l_1))) (R (AV.bo false) [Blk.cells c false]) (br ((0 : Int) != nn (Prod.snd ((), l_1))) (R (AV.bo false) [Blk.cells c false]) (Wk (1 : Nat) { t := [AV.sl (0 : Nat) (0 : Nat) len (3 : Nat) (some cap), .bad, .bad, AV.sn, AV.i IntKind.i64 (er l), .bad, .bad, AV.i IntKind.i64 (0 : Int), .bad, .bad, .bad, .bad, .bad, .bad, .bad, .bad, .bad, .bad, .bad, .bad, .bad, .bad, .bad, .bad, .bad, .bad, .bad, .bad, .bad, .bad, .bad, .bad, .bad, .bad, .bad, .bad, .bad, .bad, .bad, .bad, .bad, .bad, .bad, .bad, .bad, .bad, .bad, .bad, .bad, .bad, .bad, .bad, .bad, .bad, .bad, .bad, .bad], h := [Blk.cells c false] } { t := [AV.sl (0 : Nat) (0 : Nat) len (3 : Nat) (some cap), .bad, .bad, AV.sn, AV.i IntKind.i64 (er l), .bad, .bad, AV.i IntKind.i64 (0 : Int), .bad, .bad, .bad, .bad, .bad, .bad, .bad, .bad, .bad, .bad, .bad, .bad, .bad, .bad, .bad, .bad, .bad, .bad, .bad, .bad, .bad, .bad, .bad, .bad, .bad, .bad, .bad, .bad, .bad, .bad, .bad, .bad, .bad, .bad, .bad, .bad, .bad, .bad, .bad, .bad, .bad, .bad, .bad, .bad, .bad, .bad, .bad, .bad, .bad], h := [Blk.cells c false] } ∧ ∃ (I : Nat → Int × Int ⊕ Int × Int × Nat × List AV → Prop), ∃ (n : Nat), I n (Sum.inl (er l, (0 : Int))) ∧ (∀ (a : Int × Int) (n : Nat), I n (Sum.inl a) → br (decide (Prod.snd a < (↑len : Int))) (Holds ((0 : Int) ≤ Prod.snd a ∧ Prod.snd a < (↑len : Int)) ∧ Holds ((0 : Int) ≤ Prod.snd a ∧ Prod.snd a < (↑len : Int)) ∧ ∃ (n_1 : Int), ∃ (n_2 : Int), ∃ (s : ByteArray), Holds (List.take (3 : Nat) (List.drop ((0 : Nat) + Int.toNat (Prod.snd a) * (3 : Nat)) c) = [AV.i IntKind.u8 n_1, AV.i IntKind.i64 n_2, AV.s s]) ∧ ∃ (n_3 : Int), ∃ (n_4 : Int), ∃ (s_1 : ByteArray), Holds (List.take (3 : Nat) (List.drop ((0 : Nat) + Int.toNat (Prod.snd a) * (3 : Nat)) c) = [AV.i IntKind.u8 n_3, AV.i IntKind.i64 n_4, AV.s s_1]) ∧ Holds (ByteArray.size s ≤ (4611686018427387904 : Nat)) ∧ Holds True ∧ br (!ov (n_1, n_2, s) == ov (n_3, n_4, s_1)) (R (AV.bo false) [Blk.cells c false]) (Wk (1 : Nat) { t := [AV.sl (0 : Nat) (0 : Nat) len (3 : Nat) (some cap), .bad, .bad, AV.sn, AV.i IntKind.i64 (Prod.fst a), .bad, .bad, AV.i IntKind.i64 (IntKind.wrap IntKind.i64 (Prod.snd a + (1 : Int))), .bad, .bad, .bad, .bad, .bad, .bad, .bad, .bad, .bad, .bad, .bad, .bad, .bad, .bad, .bad, .bad, .bad, .bad, .bad, .bad, .bad, .bad, .bad, .bad, .bad, .bad, .bad, .bad, .bad, .bad, .bad, .bad, .bad, .bad, .bad, .bad, .bad, .bad, .bad, .bad, .bad, .bad, .bad, .bad, .bad, .bad, .bad, .bad, .bad], h := [Blk.cells c false] } { t := [AV.sl (0 : Nat) (0 : Nat) len (3 : Nat) (some cap), .bad, .bad, AV.sn, AV.i IntKind.i64 a.1, .bad, .bad, AV.i IntKind.i64 (IntKind.wrap IntKind.i64 (Prod.snd a + (1 : Int))), .bad, .bad, .bad, .bad, .bad, .bad, .bad, .bad, .bad, .bad, .bad, .bad, .bad, .bad, .bad, .bad, .bad, .bad, .bad, .bad, .bad, .bad, .bad, .bad, .bad, .bad, .bad, .bad, .bad, .bad, .bad, .bad, .bad, .bad, .bad, .bad, .bad, .bad, .bad, .bad, .bad, .bad, .bad, .bad, .bad, .bad, .bad, .bad, .bad], h := [Blk.cells c false] } ∧ ∃ (m : Nat), Holds (m < n) ∧ I m (Sum.inl (Prod.fst a, IntKind.wrap IntKind.i64 (Prod.snd a + (1 : Int)))))) (br (Prod.fst a != (0 : Int)) (R (AV.bo true) [Blk.cells c false]) (Holds (okSt ByteArray.empty) ∧ (Holds (DeS ByteArray.empty = []) → Holds (len ≤ cap) ∧ Holds ((0 : Nat) + len * (3 : Nat) ≤ List.length c) ∧ ∃ (l : List Ev), Holds (List.take (len * (3 : Nat)) c = recs mkEv l) ∧ Holds (List.length l = len) ∧ Holds (okL2 ((), [], l)) ∧ R (AV.bo (Sm [] l)) [Blk.cells c false]) ∧ (Holds (DeS ByteArray.empty ≠ []) → Holds (List.length (DeS ByteArray.empty) ≤ Option.getD none (List.length (DeS ByteArray.empty))) ∧ Holds ((0 : Nat) + List.length (DeS ByteArray.empty) * (3 : Nat) ≤ List.length (recs mkEv (DeS ByteArray.empty))) ∧ ∃ (l : List Ev), Holds (List.take (List.length (DeS ByteArray.empty) * (3 : Nat)) (List.drop (0 : Nat) (recs mkEv (DeS ByteArray.empty))) = recs mkEv l) ∧ Holds (List.length l = List.length (DeS ByteArray.empty)) ∧ Holds (len ≤ cap) ∧ Holds ((0 : Nat) + len * (3 : Nat) ≤ List.length c) ∧ ∃ (l_2 : List Ev), Holds (List.take (len * (3 : Nat)) c = recs mkEv l_2) ∧ Holds (List.length l_2 = len) ∧ Holds (okL2 ((), l, l_2)) ∧ R (AV.bo (Sm l l_2)) [Blk.cells c false, Blk.cells (recs mkEv (DeS ByteArray.empty)) true])))) ∧ ∀ (b : Int × Int × Nat × List AV) (n : Nat), I n (Sum.inr b) → br (decide (Prod.fst (Prod.snd b) < (↑len : Int))) (Holds ((0 : Int) ≤ Prod.fst (Prod.snd b) ∧ Prod.fst (Prod.snd b) < (↑len : Int)) ∧ Holds ((0 : Int) ≤ Prod.fst (Prod.snd b) ∧ Prod.fst (Prod.snd b) < (↑len : Int)) ∧ ∃ (n_1 : Int), ∃ (n_2 : Int), ∃ (s : ByteArray), Holds (List.take (3 : Nat) (List.drop ((0 : Nat) + Int.toNat (Prod.fst (Prod.snd b)) * (3 : Nat)) c) = [AV.i IntKind.u8 n_1, AV.i IntKind.i64 n_2, AV.s s]) ∧ ∃ (n_3 : Int), ∃ (n_4 : Int), ∃ (s_1 : ByteArray), Holds (List.take (3 : Nat) (List.drop ((0 : Nat) + Int.toNat (Prod.fst (Prod.snd b)) * (3 : Nat)) c) = [AV.i IntKind.u8 n_3, AV.i IntKind.i64 n_4, AV.s s_1]) ∧ Holds (ByteArray.size s ≤ (4611686018427387904 : Nat)) ∧ Holds True ∧ br (!ov (n_1, n_2, s) == ov (n_3, n_4, s_1)) (R (AV.bo false) [Blk.cells c false, Blk.cells (Prod.snd (Prod.snd (Prod.snd b))) true]) (Wk (1 : Nat) { t := [AV.sl (0 : Nat) (0 : Nat) len (3 : Nat) (some cap), .bad, .bad, AV.sl (1 : Nat) (0 : Nat) (Prod.fst (Prod.snd (Prod.snd b))) (1 : Nat) none, AV.i IntKind.i64 (Prod.fst b), .bad, .bad, AV.i IntKind.i64 (IntKind.wrap IntKind.i64 (Prod.fst (Prod.snd b) + (1 : Int))), .bad, .bad, .bad, .bad, .bad, .bad, .bad, .bad, .bad, .bad, .bad, .bad, .bad, .bad, .bad, .bad, .bad, .bad, .bad, .bad, .bad, .bad, .bad, .bad, .bad, .bad, .bad, .bad, .bad, .bad, .bad, .bad, .bad, .bad, .bad, .bad, .bad, .bad, .bad, .bad, .bad, .bad, .bad, .bad, .bad, .bad, .bad, .bad, .bad], h := [Blk.cells c false, Blk.cells (Prod.snd (Prod.snd (Prod.snd b))) true] } { t := [AV.sl (0 : Nat) (0 : Nat) len (3 : Nat) (some cap), .bad, .bad, AV.sl (1 : Nat) (0 : Nat) (Prod.snd (Prod.snd b)).1 (1 : Nat) none, AV.i IntKind.i64 b.1, .bad, .bad, AV.i IntKind.i64 (IntKind.wrap IntKind.i64 (Prod.fst (Prod.snd b) + (1 : Int))), .bad, .bad, .bad, .bad, .bad, .bad, .bad, .bad, .bad, .bad, .bad, .bad, .bad, .bad, .bad, .bad, .bad, .bad, .bad, .bad, .bad, .bad, .bad, .bad, .bad, .bad, .bad, .bad, .bad, .bad, .bad, .bad, .bad, .bad, .bad, .bad, .bad, .bad, .bad, .bad, .bad, .bad, .bad, .bad, .bad, .bad, .bad, .bad, .bad], h := [Blk.cells c false, Blk.cells (Prod.snd (Prod.snd b)).2 true] } ∧ ∃ (m : Nat), Holds (m < n) ∧ I m (Sum.inr (Prod.fst b, IntKind.wrap IntKind.i64 (Prod.fst (Prod.snd b) + (1 : Int)), Prod.fst (Prod.snd (Prod.snd b)), Prod.snd (Prod.snd (Prod.snd b)))))) (br (Prod.fst b != (0 : Int)) (R (AV.bo true) [Blk.cells c false, Blk.cells (Prod.snd (Prod.snd (Prod.snd b))) true]) (Holds ((0 : Nat) + Prod.fst (Prod.snd (Prod.snd b)) ≤ List.length (Prod.snd (Prod.snd b)).2) ∧ ∃ (l : List Int), Holds (numsOf (List.take (Prod.fst (Prod.snd (Prod.snd b))) (Prod.snd (Prod.snd b)).2) = some l) ∧ Holds (okSt (textOf l)) ∧ (Holds (DeS (textOf l) = []) → Holds (len ≤ cap) ∧ Holds ((0 : Nat) + len * (3 : Nat) ≤ List.length c) ∧ ∃ (l : List Ev), Holds (List.take (len * (3 : Nat)) c = recs mkEv l) ∧ Holds (List.length l = len) ∧ Holds (okL2 ((), [], l)) ∧ R (AV.bo (Sm [] l)) [Blk.cells c false, Blk.cells (Prod.snd (Prod.snd (Prod.snd b))) true]) ∧ (Holds (DeS (textOf l) ≠ []) → Holds (List.length (DeS (textOf l)) ≤ Option.getD none (List.length (DeS (textOf l)))) ∧ Holds ((0 : Nat) + List.length (DeS (textOf l)) * (3 : Nat) ≤ List.length (recs mkEv (DeS (textOf l)))) ∧ ∃ (l_2 : List Ev), Holds (List.take (List.length (DeS (textOf l)) * (3 : Nat)) (List.drop (0 : Nat) (recs mkEv (DeS (textOf l)))) = recs mkEv l_2) ∧ Holds (List.length l_2 = List.length (DeS (textOf l))) ∧ Holds (len ≤ cap) ∧ Holds ((0 : Nat) + len * (3 : Nat) ≤ List.length c) ∧ ∃ (l_3 : List Ev), Holds (List.take (len * (3 : Nat)) c = recs mkEv l_3) ∧ Holds (List.length l_3 = len) ∧ Holds (okL2 ((), l_2, l_3)) ∧ R (AV.bo (Sm l_2 l_3)) [Blk.cells c false, Blk.cells (Prod.snd (Prod.snd (Prod.snd b))) true, Blk.cells (recs mkEv (DeS (textOf l))) true])))))) ∧ (Holds (bl l ≠ []) → Holds (len ≤ cap) ∧ Holds ((0 : Nat) + len * (3 : Nat) ≤ List.length c) ∧ ∃ (l_1 : List Ev), Holds (List.take (len * (3 : Nat)) c = recs mkEv l_1) ∧ Holds (List.length l_1 = len) ∧ Holds (okLE ((), l_1)) ∧ br (er (Prod.snd ((), l)) != er (Prod.snd ((), l_1))) (R (AV.bo false) [Blk.cells c false, Blk.cells (recs mkB (bl (Prod.snd ((), l)))) true]) (br ((↑(List.length (bl (Prod.snd ((), l)))) : Int) != nn (Prod.snd ((), l_1))) (R (AV.bo false) [Blk.cells c false, Blk.cells (recs mkB (bl (Prod.snd ((), l)))) true]) (Wk (1 : Nat) { t := [AV.sl (0 : Nat) (0 : Nat) len (3 : Nat) (some cap), .bad, .bad, AV.sl (1 : Nat) (0 : Nat) (List.length (bl (Prod.snd ((), l)))) (1 : Nat) none, AV.i IntKind.i64 (er l), .bad, .bad, AV.i IntKind.i64 (0 : Int), .bad, .bad, .bad, .bad, .bad, .bad, .bad, .bad, .bad, .bad, .bad, .bad, .bad, .bad, .bad, .bad, .bad, .bad, .bad, .bad, .bad, .bad, .bad, .bad, .bad, .bad, .bad, .bad, .bad, .bad, .bad, .bad, .bad, .bad, .bad, .bad, .bad, .bad, .bad, .bad, .bad, .bad, .bad, .bad, .bad, .bad, .bad, .bad, .bad], h := [Blk.cells c false, Blk.cells (recs mkB (bl (Prod.snd ((), l)))) true] } { t := [AV.sl (0 : Nat) (0 : Nat) len (3 : Nat) (some cap), .bad, .bad, AV.sl (1 : Nat) (0 : Nat) (List.length (bl (Prod.snd ((), l)))) (1 : Nat) none, AV.i IntKind.i64 (er l), .bad, .bad, AV.i IntKind.i64 (0 : Int), .bad, .bad, .bad, .bad, .bad, .bad, .bad, .bad, .bad, .bad, .bad, .bad, .bad, .bad, .bad, .bad, .bad, .bad, .bad, .bad, .bad, .bad, .bad, .bad, .bad, .bad, .bad, .bad, .bad, .bad, .bad, .bad, .bad, .bad, .bad, .bad, .bad, .bad, .bad, .bad, .bad, .bad, .bad, .bad, .bad, .bad, .bad, .bad, .bad], h := [Blk.cells c false, Blk.cells (recs mkB (bl (Prod.snd ((), l)))) true] } ∧ ∃ (I : Nat → Int × Int ⊕ Int × Int × Nat × List AV → Prop), ∃ (n : Nat), I n (Sum.inr (er l, (0 : Int), List.length (bl (Prod.snd ((), l))), recs mkB (bl (Prod.snd ((), l))))) ∧ (∀ (a : Int × Int) (n : Nat), I n (Sum.inl a) → br (decide (Prod.snd a < (↑len : Int))) (Holds ((0 : Int) ≤ Prod.snd a ∧ Prod.snd a < (↑len : Int)) ∧ Holds ((0 : Int) ≤ Prod.snd a ∧ Prod.snd a < (↑len : Int)) ∧ ∃ (n_1 : Int), ∃ (n_2 : Int), ∃ (s : ByteArray), Holds (List.take (3 : Nat) (List.drop ((0 : Nat) + Int.toNat (Prod.snd a) * (3 : Nat)) c) = [AV.i IntKind.u8 n_1, AV.i IntKind.i64 n_2, AV.s s]) ∧ ∃ (n_3 : Int), ∃ (n_4 : Int), ∃ (s_1 : ByteArray), Holds (List.take (3 : Nat) (List.drop ((0 : Nat) + Int.toNat (Prod.snd a) * (3 : Nat)) c) = [AV.i IntKind.u8 n_3, AV.i IntKind.i64 n_4, AV.s s_1]) ∧ Holds (ByteArray.size s ≤ (4611686018427387904 : Nat)) ∧ Holds True ∧ br (!ov (n_1, n_2, s) == ov (n_3, n_4, s_1)) (R (AV.bo false) [Blk.cells c false]) (Wk (1 : Nat) { t := [AV.sl (0 : Nat) (0 : Nat) len (3 : Nat) (some cap), .bad, .bad, AV.sn, AV.i IntKind.i64 (Prod.fst a), .bad, .bad, AV.i IntKind.i64 (IntKind.wrap IntKind.i64 (Prod.snd a + (1 : Int))), .bad, .bad, .bad, .bad, .bad, .bad, .bad, .bad, .bad, .bad, .bad, .bad, .bad, .bad, .bad, .bad, .bad, .bad, .bad, .bad, .bad, .bad, .bad, .bad, .bad, .bad, .bad, .bad, .bad, .bad, .bad, .bad, .bad, .bad, .bad, .bad, .bad, .bad, .bad, .bad, .bad, .bad, .bad, .bad, .bad, .bad, .bad, .bad, .bad], h := [Blk.cells c false] } { t := [AV.sl (0 : Nat) (0 : Nat) len (3 : Nat) (some cap), .bad, .bad, AV.sn, AV.i IntKind.i64 a.1, .bad, .bad, AV.i IntKind.i64 (IntKind.wrap IntKind.i64 (Prod.snd a + (1 : Int))), .bad, .bad, .bad, .bad, .bad, .bad, .bad, .bad, .bad, .bad, .bad, .bad, .bad, .bad, .bad, .bad, .bad, .bad, .bad, .bad, .bad, .bad, .bad, .bad, .bad, .bad, .bad, .bad, .bad, .bad, .bad, .bad, .bad, .bad, .bad, .bad, .bad, .bad, .bad, .bad, .bad, .bad, .bad, .bad, .bad, .bad, .bad, .bad, .bad], h := [Blk.cells c false] } ∧ ∃ (m : Nat), Holds (m < n) ∧ I m (Sum.inl (Prod.fst a, IntKind.wrap IntKind.i64 (Prod.snd a + (1 : Int)))))) (br (Prod.fst a != (0 : Int)) (R (AV.bo true) [Blk.cells c false]) (Holds (okSt ByteArray.empty) ∧ (Holds (DeS ByteArray.empty = []) → Holds (len ≤ cap) ∧ Holds ((0 : Nat) + len * (3 : Nat) ≤ List.length c) ∧ ∃ (l : List Ev), Holds (List.take (len * (3 : Nat)) c = recs mkEv l) ∧ Holds (List.length l = len) ∧ Holds (okL2 ((), [], l)) ∧ R (AV.bo (Sm [] l)) [Blk.cells c false]) ∧ (Holds (DeS ByteArray.empty ≠ []) → Holds (List.length (DeS ByteArray.empty) ≤ Option.getD none (List.length (DeS ByteArray.empty))) ∧ Holds ((0 : Nat) + List.length (DeS ByteArray.empty) * (3 : Nat) ≤ List.length (recs mkEv (DeS ByteArray.empty))) ∧ ∃ (l : List Ev), Holds (List.take (List.length (DeS ByteArray.empty) * (3 : Nat)) (List.drop (0 : Nat) (recs mkEv (DeS ByteArray.empty))) = recs mkEv l) ∧ Holds (List.length l = List.length (DeS ByteArray.empty)) ∧ Holds (len ≤ cap) ∧ Holds ((0 : Nat) + len * (3 : Nat) ≤ List.length c) ∧ ∃ (l_2 : List Ev), Holds (List.take (len * (3 : Nat)) c = recs mkEv l_2) ∧ Holds (List.length l_2 = len) ∧ Holds (okL2 ((), l, l_2)) ∧ R (AV.bo (Sm l l_2)) [Blk.cells c false, Blk.cells (recs mkEv (DeS ByteArray.empty)) true])))) ∧ ∀ (b : Int × Int × Nat × List AV) (n : Nat), I n (Sum.inr b) → br (decide (Prod.fst (Prod.snd b) < (↑len : Int))) (Holds ((0 : Int) ≤ Prod.fst (Prod.snd b) ∧ Prod.fst (Prod.snd b) < (↑len : Int)) ∧ Holds ((0 : Int) ≤ Prod.fst (Prod.snd b) ∧ Prod.fst (Prod.snd b) < (↑len : Int)) ∧ ∃ (n_1 : Int), ∃ (n_2 : Int), ∃ (s : ByteArray), Holds (List.take (3 : Nat) (List.drop ((0 : Nat) + Int.toNat (Prod.fst (Prod.snd b)) * (3 : Nat)) c) = [AV.i IntKind.u8 n_1, AV.i IntKind.i64 n_2, AV.s s]) ∧ ∃ (n_3 : Int), ∃ (n_4 : Int), ∃ (s_1 : ByteArray), Holds (List.take (3 : Nat) (List.drop ((0 : Nat) + Int.toNat (Prod.fst (Prod.snd b)) * (3 : Nat)) c) = [AV.i IntKind.u8 n_3, AV.i IntKind.i64 n_4, AV.s s_1]) ∧ Holds (ByteArray.size s ≤ (4611686018427387904 : Nat)) ∧ Holds True ∧ br (!ov (n_1, n_2, s) == ov (n_3, n_4, s_1)) (R (AV.bo false) [Blk.cells c false, Blk.cells (Prod.snd (Prod.snd (Prod.snd b))) true]) (Wk (1 : Nat) { t := [AV.sl (0 : Nat) (0 : Nat) len (3 : Nat) (some cap), .bad, .bad, AV.sl (1 : Nat) (0 : Nat) (Prod.fst (Prod.snd (Prod.snd b))) (1 : Nat) none, AV.i IntKind.i64 (Prod.fst b), .bad, .bad, AV.i IntKind.i64 (IntKind.wrap IntKind.i64 (Prod.fst (Prod.snd b) + (1 : Int))), .bad, .bad, .bad, .bad, .bad, .bad, .bad, .bad, .bad, .bad, .bad, .bad, .bad, .bad, .bad, .bad, .bad, .bad, .bad, .bad, .bad, .bad, .bad, .bad, .bad, .bad, .bad, .bad, .bad, .bad, .bad, .bad, .bad, .bad, .bad, .bad, .bad, .bad, .bad, .bad, .bad, .bad, .bad, .bad, .bad, .bad, .bad, .bad, .bad], h := [Blk.cells c false, Blk.cells (Prod.snd (Prod.snd (Prod.snd b))) true] } { t := [AV.sl (0 : Nat) (0 : Nat) len (3 : Nat) (some cap), .bad, .bad, AV.sl (1 : Nat) (0 : Nat) (Prod.snd (Prod.snd b)).1 (1 : Nat) none, AV.i IntKind.i64 b.1, .bad, .bad, AV.i IntKind.i64 (IntKind.wrap IntKind.i64 (Prod.fst (Prod.snd b) + (1 : Int))), .bad, .bad, .bad, .bad, .bad, .bad, .bad, .bad, .bad, .bad, .bad, .bad, .bad, .bad, .bad, .bad, .bad, .bad, .bad, .bad, .bad, .bad, .bad, .bad, .bad, .bad, .bad, .bad, .bad, .bad, .bad, .bad, .bad, .bad, .bad, .bad, .bad, .bad, .bad, .bad, .bad, .bad, .bad, .bad, .bad, .bad, .bad, .bad, .bad], h := [Blk.cells c false, Blk.cells (Prod.snd (Prod.snd b)).2 true] } ∧ ∃ (m : Nat), Holds (m < n) ∧ I m (Sum.inr (Prod.fst b, IntKind.wrap IntKind.i64 (Prod.fst (Prod.snd b) + (1 : Int)), Prod.fst (Prod.snd (Prod.snd b)), Prod.snd (Prod.snd (Prod.snd b)))))) (br (Prod.fst b != (0 : Int)) (R (AV.bo true) [Blk.cells c false, Blk.cells (Prod.snd (Prod.snd (Prod.snd b))) true]) (Holds ((0 : Nat) + Prod.fst (Prod.snd (Prod.snd b)) ≤ List.length (Prod.snd (Prod.snd b)).2) ∧ ∃ (l : List Int), Holds (numsOf (List.take (Prod.fst (Prod.snd (Prod.snd b))) (Prod.snd (Prod.snd b)).2) = some l) ∧ Holds (okSt (textOf l)) ∧ (Holds (DeS (textOf l) = []) → Holds (len ≤ cap) ∧ Holds ((0 : Nat) + len * (3 : Nat) ≤ List.length c) ∧ ∃ (l : List Ev), Holds (List.take (len * (3 : Nat)) c = recs mkEv l) ∧ Holds (List.length l = len) ∧ Holds (okL2 ((), [], l)) ∧ R (AV.bo (Sm [] l)) [Blk.cells c false, Blk.cells (Prod.snd (Prod.snd (Prod.snd b))) true]) ∧ (Holds (DeS (textOf l) ≠ []) → Holds (List.length (DeS (textOf l)) ≤ Option.getD none (List.length (DeS (textOf l)))) ∧ Holds ((0 : Nat) + List.length (DeS (textOf l)) * (3 : Nat) ≤ List.length (recs mkEv (DeS (textOf l)))) ∧ ∃ (l_2 : List Ev), Holds (List.take (List.length (DeS (textOf l)) * (3 : Nat)) (List.drop (0 : Nat) (recs mkEv (DeS (textOf l)))) = recs mkEv l_2) ∧ Holds (List.length l_2 = List.length (DeS (textOf l))) ∧ Holds (len ≤ cap) ∧ Holds ((0 : Nat) + len * (3 : Nat) ≤ List.length c) ∧ ∃ (l_3 : List Ev), Holds (List.take (len * (3 : Nat)) c = recs mkEv l_3) ∧ Holds (List.length l_3 = len) ∧ Holds (okL2 ((), l_2, l_3)) ∧ R (AV.bo (Sm l_2 l_3)) [Blk.cells c false, Blk.cells (Prod.snd (Prod.snd (Prod.snd b))) true, Blk.cells (recs mkEv (DeS (textOf l))) true])))))))) := by kernel_rfl
theorem vl8n (De : List UInt8 → List Ev) (DeS : ByteArray → List Ev) (Sm : List Ev → List Ev → Bool) (bl : List Ev → List UInt8) (er : List Ev → Int) (Gr : List Ev → Bool) (nn : List Ev → Int) (ov : Ev → Bool) (R : AV → Hp → Prop) : (wpFn P (TL De DeS Sm bl er Gr nn ov) W8 (head8 .sn 0 []) 0 Go.Proofs.Try.f8 [.sn] [] R) = (Holds (okLG ((), [])) ∧ br (Gr []) (R (AV.bo true) []) (Holds (okLE ((), [])) ∧ (Holds (bl [] = []) → Holds (okLE ((), [])) ∧ br (er (Prod.snd ((), [])) != er (Prod.snd ((), []))) (R (AV.bo false) []) (br ((0 : Int) != nn (Prod.snd ((), []))) (R (AV.bo false) []) (Wk (0 : Nat) { t := [AV.sn, .bad, .bad, AV.sn, AV.i IntKind.i64 (er []), .bad, .bad, AV.i IntKind.i64 (0 : Int), .bad, .bad, .bad, .bad, .bad, .bad, .bad, .bad, .bad, .bad, .bad, .bad, .bad, .bad, .bad, .bad, .bad, .bad, .bad, .bad, .bad, .bad, .bad, .bad, .bad, .bad, .bad, .bad, .bad, .bad, .bad, .bad, .bad, .bad, .bad, .bad, .bad, .bad, .bad, .bad, .bad, .bad, .bad, .bad, .bad, .bad, .bad, .bad, .bad], h := [] } { t := [AV.sn, .bad, .bad, AV.sn, AV.i IntKind.i64 (er []), .bad, .bad, AV.i IntKind.i64 (0 : Int), .bad, .bad, .bad, .bad, .bad, .bad, .bad, .bad, .bad, .bad, .bad, .bad, .bad, .bad, .bad, .bad, .bad, .bad, .bad, .bad, .bad, .bad, .bad, .bad, .bad, .bad, .bad, .bad, .bad, .bad, .bad, .bad, .bad, .bad, .bad, .bad, .bad, .bad, .bad, .bad, .bad, .bad, .bad, .bad, .bad, .bad, .bad, .bad, .bad], h := [] } ∧ ∃ (I : Nat → Int × Int ⊕ Int × Int × Nat × List AV → Prop), ∃ (n : Nat), I n (Sum.inl (er [], (0 : Int))) ∧ (∀ (a : Int × Int) (n : Nat), I n (Sum.inl a) → br (decide (Prod.snd a < (0 : Int))) False (br (Prod.fst a != (0 : Int)) (R (AV.bo true) []) (Holds (okSt ByteArray.empty) ∧ (Holds (DeS ByteArray.empty = []) → Holds (okL2 ((), [], [])) ∧ R (AV.bo (Sm [] [])) []) ∧ (Holds (DeS ByteArray.empty ≠ []) → Holds (List.length (DeS ByteArray.empty) ≤ Option.getD none (List.length (DeS ByteArray.empty))) ∧ Holds ((0 : Nat) + List.length (DeS ByteArray.empty) * (3 : Nat) ≤ List.length (recs mkEv (DeS ByteArray.empty))) ∧ ∃ (l : List Ev), Holds (List.take (List.length (DeS ByteArray.empty) * (3 : Nat)) (List.drop (0 : Nat) (recs mkEv (DeS ByteArray.empty))) = recs mkEv l) ∧ Holds (List.length l = List.length (DeS ByteArray.empty)) ∧ Holds (okL2 ((), l, [])) ∧ R (AV.bo (Sm l [])) [Blk.cells (recs mkEv (DeS ByteArray.empty)) true])))) ∧ ∀ (b : Int × Int × Nat × List AV) (n : Nat), I n (Sum.inr b) → br (decide (Prod.fst (Prod.snd b) < (0 : Int))) False (br (Prod.fst b != (0 : Int)) (R (AV.bo true) [Blk.cells (Prod.snd (Prod.snd (Prod.snd b))) true]) (Holds ((0 : Nat) + Prod.fst (Prod.snd (Prod.snd b)) ≤ List.length (Prod.snd (Prod.snd b)).2) ∧ ∃ (l : List Int), Holds (numsOf (List.take (Prod.fst (Prod.snd (Prod.snd b))) (Prod.snd (Prod.snd b)).2) = some l) ∧ Holds (okSt (textOf l)) ∧ (Holds (DeS (textOf l) = []) → Holds (okL2 ((), [], [])) ∧ R (AV.bo (Sm [] [])) [Blk.cells (Prod.snd (Prod.snd (Prod.snd b))) true]) ∧ (Holds (DeS (textOf l) ≠ []) → Holds (List.length (DeS (textOf l)) ≤ Option.getD none (List.length (DeS (textOf l)))) ∧ Holds ((0 : Nat) + List.length (DeS (textOf l)) * (3 : Nat) ≤ List.length (recs mkEv (DeS (textOf l)))) ∧ ∃ (l_1 : List Ev), Holds (List.take (List.length (DeS (textOf l)) * (3 : Nat)) (List.drop (0 : Nat) (recs mkEv (DeS (textOf l)))) = recs mkEv l_1) ∧ Holds (List.length l_1 = List.length (DeS (textOf l))) ∧ Holds (okL2 ((), l_1, [])) ∧ R (AV.bo (Sm l_1 [])) [Blk.cells (Prod.snd (Prod.snd (Prod.snd b))) true, Blk.cells (recs mkEv (DeS (textOf l))) true])))))) ∧ (Holds (bl [] ≠ []) → Holds (okLE ((), [])) ∧ br (er (Prod.snd ((), [])) != er (Prod.snd ((), []))) (R (AV.bo false) [Blk.cells (recs mkB (bl (Prod.snd ((), [])))) true]) (br ((↑(List.length (bl (Prod.snd ((), [])))) : Int) != nn (Prod.snd ((), []))) (R (AV.bo false) [Blk.cells (recs mkB (bl (Prod.snd ((), [])))) true]) (Wk (0 : Nat) { t := [AV.sn, .bad, .bad, AV.sl (0 : Nat) (0 : Nat) (List.length (bl (Prod.snd ((), [])))) (1 : Nat) none, AV.i IntKind.i64 (er []), .bad, .bad, AV.i IntKind.i64 (0 : Int), .bad, .bad, .bad, .bad, .bad, .bad, .bad, .bad, .bad, .bad, .bad, .bad, .bad, .bad, .bad, .bad, .bad, .bad, .bad, .bad, .bad, .bad, .bad, .bad, .bad, .bad, .bad, .bad, .bad, .bad, .bad, .bad, .bad, .bad, .bad, .bad, .bad, .bad, .bad, .bad, .bad, .bad, .bad, .bad, .bad, .bad, .bad, .bad, .bad], h := [Blk.cells (recs mkB (bl (Prod.snd ((), [])))) true] } { t := [AV.sn, .bad, .bad, AV.sl (0 : Nat) (0 : Nat) (List.length (bl (Prod.snd ((), [])))) (1 : Nat) none, AV.i IntKind.i64 (er []), .bad, .bad, AV.i IntKind.i64 (0 : Int), .bad, .bad, .bad, .bad, .bad, .bad, .bad, .bad, .bad, .bad, .bad, .bad, .bad, .bad, .bad, .bad, .bad, .bad, .bad, .bad, .bad, .bad, .bad, .bad, .bad, .bad, .bad, .bad, .bad, .bad, .bad, .bad, .bad, .bad, .bad, .bad, .bad, .bad, .bad, .bad, .bad, .bad, .bad, .bad, .bad, .bad, .bad, .bad, .bad], h := [Blk.cells (recs mkB (bl (Prod.snd ((), [])))) true] } ∧ ∃ (I : Nat → Int × Int ⊕ Int × Int × Nat × List AV → Prop), ∃ (n : Nat), I n (Sum.inr (er [], (0 : Int), List.length (bl (Prod.snd ((), []))), recs mkB (bl (Prod.snd ((), []))))) ∧ (∀ (a : Int × Int) (n : Nat), I n (Sum.inl a) → br (decide (Prod.snd a < (0 : Int))) False (br (Prod.fst a != (0 : Int)) (R (AV.bo true) []) (Holds (okSt ByteArray.empty) ∧ (Holds (DeS ByteArray.empty = []) → Holds (okL2 ((), [], [])) ∧ R (AV.bo (Sm [] [])) []) ∧ (Holds (DeS ByteArray.empty ≠ []) → Holds (List.length (DeS ByteArray.empty) ≤ Option.getD none (List.length (DeS ByteArray.empty))) ∧ Holds ((0 : Nat) + List.length (DeS ByteArray.empty) * (3 : Nat) ≤ List.length (recs mkEv (DeS ByteArray.empty))) ∧ ∃ (l : List Ev), Holds (List.take (List.length (DeS ByteArray.empty) * (3 : Nat)) (List.drop (0 : Nat) (recs mkEv (DeS ByteArray.empty))) = recs mkEv l) ∧ Holds (List.length l = List.length (DeS ByteArray.empty)) ∧ Holds (okL2 ((), l, [])) ∧ R (AV.bo (Sm l [])) [Blk.cells (recs mkEv (DeS ByteArray.empty)) true])))) ∧ ∀ (b : Int × Int × Nat × List AV) (n : Nat), I n (Sum.inr b) → br (decide (Prod.fst (Prod.snd b) < (0 : Int))) False (br (Prod.fst b != (0 : Int)) (R (AV.bo true) [Blk.cells (Prod.snd (Prod.snd (Prod.snd b))) true]) (Holds ((0 : Nat) + Prod.fst (Prod.snd (Prod.snd b)) ≤ List.length (Prod.snd (Prod.snd b)).2) ∧ ∃ (l : List Int), Holds (numsOf (List.take (Prod.fst (Prod.snd (Prod.snd b))) (Prod.snd (Prod.snd b)).2) = some l) ∧ Holds (okSt (textOf l)) ∧ (Holds (DeS (textOf l) = []) → Holds (okL2 ((), [], [])) ∧ R (AV.bo (Sm [] [])) [Blk.cells (Prod.snd (Prod.snd (Prod.snd b))) true]) ∧ (Holds (DeS (textOf l) ≠ []) → Holds (List.length (DeS (textOf l)) ≤ Option.getD none (List.length (DeS (textOf l)))) ∧ Holds ((0 : Nat) + List.length (DeS (textOf l)) * (3 : Nat) ≤ List.length (recs mkEv (DeS (textOf l)))) ∧ ∃ (l_1 : List Ev), Holds (List.take (List.length (DeS (textOf l)) * (3 : Nat)) (List.drop (0 : Nat) (recs mkEv (DeS (textOf l)))) = recs mkEv l_1) ∧ Holds (List.length l_1 = List.length (DeS (textOf l))) ∧ Holds (okL2 ((), l_1, [])) ∧ R (AV.bo (Sm l_1 [])) [Blk.cells (Prod.snd (Prod.snd (Prod.snd b))) true, Blk.cells (recs mkEv (DeS (textOf l))) true])))))))) := by kernel_rfl
/-! what is written -/
theorem foldT (l : List Ev) : ∀ a : Int, l.foldl (fun n e => n + (if 600001 < (e.2.2.size : Int) then 600001 else (e.2.2.size : Int))) a = a + sumT l := by
  unfold sumT
  induction l with
  | nil => intro a; simp
  | cons e l ih =>
    intro a
    simp only [List.foldl_cons]
    rw [ih, ih (0 + _)]; omega
theorem sumT_cons (e : Ev) (l : List Ev) : sumT (e :: l) = (if 600001 < (e.2.2.size : Int) then 600001 else (e.2.2.size : Int)) + sumT l := by
  show (e :: l).foldl _ 0 = _
  rw [List.foldl_cons, foldT]; omega
theorem sumT_nonneg : ∀ (l : List Ev), 0 ≤ sumT l
  | [] => by simp [sumT]
  | e :: l => by
    rw [sumT_cons]
    have := sumT_nonneg l
    split <;> omega
theorem sumT_mem : ∀ {l : List Ev} {e : Ev}, e ∈ l → sumT l ≤ 600000 → e.2.2.size ≤ 600000
  | x :: l, e, h, hs => by
    rw [sumT_cons] at hs
    have h0 := sumT_nonneg l
    rcases List.mem_cons.1 h with rfl | h
    · split at hs <;> omega
    · refine sumT_mem h ?_
      split at hs <;> omega
theorem gr_small {l : List Ev} (h : grE l = false) : l.length ≤ 5000 ∧ ∀ e ∈ l, e.2.2.size ≤ 600000 := by
  simp only [grE, decide_eq_false_iff_not, not_or] at h
  exact ⟨by omega, fun e he => sumT_mem he (by omega)⟩
theorem gr_ok {l : List Ev} (h : grE l = false) : okEv l := by
  have := gr_small h
  exact ⟨by omega, fun e he => by have := this.2 e he; omega⟩
theorem lg_ok {l : List Ev} {n : Nat} (h : l.length ≤ n) (hn : n ≤ maxLen) : okLG ((), l) := by
  have : maxLen = 9223372036854775807 := by decide
  show l.length ≤ 9223372036854775807
  omega
theorem enc_len (l : List Ev) : (enc l).1.length ≤ 262144 := by
  unfold enc
  split
  · split
    · simp
    · simp only; omega
  · simp
theorem dec_back {l : List Ev} (h : (enc l).2 = 0) : decode (enc l).1 = l := (decode_enc h).1
theorem win3 {xs ys : List Ev} (hx : xs.take ys.length = ys) : List.take (ys.length * 3) (recs mkEv xs) = recs mkEv ys := by rw [recs_take mkEv_len, hx]
theorem win_len {xs ys : List Ev} (hx : xs.take ys.length = ys) : ys.length ≤ xs.length := by
  have := congrArg List.length hx
  rw [List.length_take] at this; omega
theorem win_at {xs ys : List Ev} (hx : xs.take ys.length = ys) {i : Nat} (hi : i < ys.length) : List.take 3 (List.drop (i * 3) (recs mkEv xs)) = mkEv ys[i] := by
  have := recs_in (c := recs mkEv xs) (off := 0) mkEv_len (by rw [List.drop_zero]; exact win3 hx) rfl (List.getElem?_eq_getElem hi)
  rwa [Nat.zero_add] at this
theorem exEv {e : Ev} {Q : Int → Int → ByteArray → Prop} : (∃ (a b : Int) (s : ByteArray), mkEv e = [AV.i .u8 a, AV.i .i64 b, AV.s s] ∧ Q a b s) = Q e.1 e.2.1 e.2.2 := by
  apply propext
  constructor
  · rintro ⟨a, b, s, h, hq⟩
    simp only [mkEv, List.cons.injEq, AV.i.injEq, AV.s.injEq, true_and, and_true] at h
    obtain ⟨rfl, rfl, rfl⟩ := h
    exact hq
  · exact fun h => ⟨_, _, _, rfl, h⟩
theorem okSt_e : okSt ByteArray.empty := by show (0 : Nat) ≤ _; omega
theorem okL2_e : okL2 ((), [], []) := ⟨by simp, by simp⟩
def I8 (ys : List Ev) (n : Nat) (q : Int × Int ⊕ Int × Int × Nat × List AV) : Prop := match q with
  | .inl q => ∃ i : Nat, q.2 = i ∧ i + n = ys.length ∧ q.1 = (enc ys).2 ∧ (enc ys).1 = []
  | .inr q => ∃ i : Nat, q.2.1 = i ∧ i + n = ys.length ∧ q.1 = (enc ys).2 ∧ q.2.2.1 = (enc ys).1.length ∧ q.2.2.2 = recs mkB (enc ys).1
theorem run8 {xs ys : List Ev} {cap : Nat} (hx : xs.take ys.length = ys) (hcap : ys.length ≤ cap) (hm : xs.length ≤ maxLen) {R : AV → Hp → Prop} (hR : ∀ h, R (.bo true) h) : wpFn P TLs W8 (head8 (.sl 0 0 ys.length 3 (some cap)) 1 [.cells (recs mkEv xs) false]) 1 Go.Proofs.Try.f8 [.sl 0 0 ys.length 3 (some cap)] [.cells (recs mkEv xs) false] R := by
  have hle := win_len hx
  have hle3 : ys.length * 3 ≤ xs.length * 3 := by omega
  rw [vl8]
  simp only [↓br_ite, ↓reduceIte, holds_eq, List.getElem?_cons_zero, List.getElem?_cons_succ, Option.some.injEq, AV.i.injEq, AV.s.injEq, AV.bo.injEq, true_and, and_true, List.cons.injEq, List.length_cons, List.length_nil, and_assoc, exists_and_left, exists_eq_left', exists_eq_left, br_true, br_false, Nat.zero_add, Nat.add_zero, Nat.reduceAdd, Nat.reduceLeDiff, Nat.le_refl, numsOf_one, beq_self_eq_true, Int.reduceLE, Int.reduceLT, Int.reduceAdd, Int.reduceSub, Int.reduceMul, Int.reduceNeg, Int.reduceToNat, Int.reducePow, Int.reduceMod, Int.reduceDiv, Int.cast_ofNat_Int, Int.reduceBEq, i64w, decide_true, decide_false, Int.le_refl, Nat.min_def, reduceIte, Int.one_mul, bits64, Int.natCast_add, Bool.false_eq_true, list_beq, Option.getD_some, Option.getD_none, Nat.mul_one, List.drop_zero, rl1, rl3, win3 hx, tk3, tk1, ex3n, ex1n, ex3, ex1, numsOf_bytes, numsOf_nil, textOf_bytes, textOf_nil, ofL_list, decide_eq_true_eq, wk_and, int_bne, hcap, hle3, ne_eq, not_true, if_false]
  refine ⟨lg_ok hle hm, ?_⟩
  by_cases hG : grE ys = true
  · rw [if_pos hG]; exact hR _
  rw [if_neg hG]
  have hG : grE ys = false := by simpa using hG
  have hok := gr_ok hG
  have hsm := gr_small hG
  have hel := enc_len ys
  refine ⟨hok, fun he => ⟨hok, ?_⟩, fun he => ⟨hok, ?_⟩⟩
  · rw [if_neg (by rw [he]; simp)]
    refine ⟨I8 ys, ys.length, ⟨0, rfl, by omega, rfl, he⟩, ?_, ?_⟩
    · rintro ⟨e0, a⟩ n ⟨i, h1, h2, h3, h4⟩
      simp only at h1 h3 ⊢
      subst h1 h3
      by_cases hi : (i : Int) < ys.length
      · rw [if_pos hi]
        have hi' : i < ys.length := by omega
        have e1 := win_at hx hi'
        have e2 := hsm.2 _ (List.getElem_mem hi')
        refine ⟨by omega, hi, by omega, hi, ys[i].1, ys[i].2.1, ys[i].2.2, by rw [Int.toNat_natCast]; exact e1, ys[i].1, ys[i].2.1, ys[i].2.2, by rw [Int.toNat_natCast]; exact e1, by omega, ?_⟩
        rw [if_neg (by simp)]
        exact ⟨n - 1, by omega, i + 1, by simp only; rw [i64w (by omega) (by omega)]; omega, by omega, rfl, h4⟩
      · rw [if_neg hi]
        by_cases hz : (enc ys).2 = 0
        · rw [if_neg (by simpa using hz)]
          have hd := dec_back hz
          rw [h4] at hd
          have hy : ys = [] := hd.symm
          subst hy
          have hb : decode ByteArray.empty.data.toList = [] := rfl
          refine ⟨okSt_e, fun _ => ⟨okL2_e, hR _⟩, fun h => absurd hb h⟩
        · rw [if_pos (by simpa using hz)]; exact hR _
    · rintro ⟨e0, a, len, cells⟩ n ⟨i, h1, h2, h3, h4, h5⟩
      simp only at h1 h3 h4 h5 ⊢
      subst h1 h3 h4 h5
      by_cases hi : (i : Int) < ys.length
      · rw [if_pos hi]
        have hi' : i < ys.length := by omega
        have e1 := win_at hx hi'
        have e2 := hsm.2 _ (List.getElem_mem hi')
        refine ⟨by omega, hi, by omega, hi, ys[i].1, ys[i].2.1, ys[i].2.2, by rw [Int.toNat_natCast]; exact e1, ys[i].1, ys[i].2.1, ys[i].2.2, by rw [Int.toNat_natCast]; exact e1, by omega, ?_⟩
        rw [if_neg (by simp)]
        exact ⟨n - 1, by omega, i + 1, by simp only; rw [i64w (by omega) (by omega)]; omega, by omega, rfl, rfl, rfl⟩
      · rw [if_neg hi]
        by_cases hz : (enc ys).2 = 0
        · rw [if_neg (by simpa using hz)]
          have hd := dec_back hz
          have ht : numsOf (List.take (enc ys).1.length (recs mkB (enc ys).1)) = some ((enc ys).1.map fun b => (b.toNat : Int)) := by rw [tk1, numsOf_bytes]
          refine ⟨by rw [rl1]; exact Nat.le_refl _, _, ht, ?_⟩
          simp only [textOf_bytes, ofL_list, hd]
          refine ⟨by show (ofL _).size ≤ _; rw [ofL_size]; omega, fun h => ?_, fun h => ?_⟩
          · subst h; exact ⟨okL2_e, hR _⟩
          · refine ⟨⟨by simp only; omega, by simp only; omega⟩, ?_⟩
            simp only [decide_true]; exact hR _
        · rw [if_pos (by simpa using hz)]; exact hR _
  · refine ⟨I8 ys, ys.length, ⟨0, rfl, by omega, rfl, rfl, rfl⟩, ?_, ?_⟩
    · rintro ⟨e0, a⟩ n ⟨i, h1, h2, h3, h4⟩
      simp only at h1 h3 ⊢
      subst h1 h3
      by_cases hi : (i : Int) < ys.length
      · rw [if_pos hi]
        have hi' : i < ys.length := by omega
        have e1 := win_at hx hi'
        have e2 := hsm.2 _ (List.getElem_mem hi')
        refine ⟨by omega, hi, by omega, hi, ys[i].1, ys[i].2.1, ys[i].2.2, by rw [Int.toNat_natCast]; exact e1, ys[i].1, ys[i].2.1, ys[i].2.2, by rw [Int.toNat_natCast]; exact e1, by omega, ?_⟩
        rw [if_neg (by simp)]
        exact ⟨n - 1, by omega, i + 1, by simp only; rw [i64w (by omega) (by omega)]; omega, by omega, rfl, h4⟩
      · rw [if_neg hi]
        by_cases hz : (enc ys).2 = 0
        · rw [if_neg (by simpa using hz)]
          have hd := dec_back hz
          rw [h4] at hd
          have hy : ys = [] := hd.symm
          subst hy
          have hb : decode ByteArray.empty.data.toList = [] := rfl
          refine ⟨okSt_e, fun _ => ⟨okL2_e, hR _⟩, fun h => absurd hb h⟩
        · rw [if_pos (by simpa using hz)]; exact hR _
    · rintro ⟨e0, a, len, cells⟩ n ⟨i, h1, h2, h3, h4, h5⟩
      simp only at h1 h3 h4 h5 ⊢
      subst h1 h3 h4 h5
      by_cases hi : (i : Int) < ys.length
      · rw [if_pos hi]
        have hi' : i < ys.length := by omega
        have e1 := win_at hx hi'
        have e2 := hsm.2 _ (List.getElem_mem hi')
        refine ⟨by omega, hi, by omega, hi, ys[i].1, ys[i].2.1, ys[i].2.2, by rw [Int.toNat_natCast]; exact e1, ys[i].1, ys[i].2.1, ys[i].2.2, by rw [Int.toNat_natCast]; exact e1, by omega, ?_⟩
        rw [if_neg (by simp)]
        exact ⟨n - 1, by omega, i + 1, by simp only; rw [i64w (by omega) (by omega)]; omega, by omega, rfl, rfl, rfl⟩
      · rw [if_neg hi]
        by_cases hz : (enc ys).2 = 0
        · rw [if_neg (by simpa using hz)]
          have hd := dec_back hz
          have ht : numsOf (List.take (enc ys).1.length (recs mkB (enc ys).1)) = some ((enc ys).1.map fun b => (b.toNat : Int)) := by rw [tk1, numsOf_bytes]
          refine ⟨by rw [rl1]; exact Nat.le_refl _, _, ht, ?_⟩
          simp only [textOf_bytes, ofL_list, hd]
          refine ⟨by show (ofL _).size ≤ _; rw [ofL_size]; omega, fun h => ?_, fun h => ?_⟩
          · subst h; exact ⟨okL2_e, hR _⟩
          · refine ⟨⟨by simp only; omega, by simp only; omega⟩, ?_⟩
            simp only [decide_true]; exact hR _
        · rw [if_pos (by simpa using hz)]; exact hR _
theorem run8n {R : AV → Hp → Prop} (hR : ∀ h, R (.bo true) h) : wpFn P TLs W8 (head8 .sn 0 []) 0 Go.Proofs.Try.f8 [.sn] [] R := by
  rw [vl8n]
  have e1 : (enc []).1 = [] := rfl
  have e2 : (enc []).2 = 0 := rfl
  simp only [↓br_ite, ↓reduceIte, holds_eq, List.getElem?_cons_zero, List.getElem?_cons_succ, Option.some.injEq, AV.i.injEq, AV.s.injEq, AV.bo.injEq, true_and, and_true, List.cons.injEq, List.length_cons, List.length_nil, and_assoc, exists_and_left, exists_eq_left', exists_eq_left, br_true, br_false, Nat.zero_add, Nat.add_zero, Nat.reduceAdd, Nat.reduceLeDiff, Nat.le_refl, numsOf_one, beq_self_eq_true, Int.reduceLE, Int.reduceLT, Int.reduceAdd, Int.reduceSub, Int.reduceMul, Int.reduceNeg, Int.reduceToNat, Int.reducePow, Int.reduceMod, Int.reduceDiv, Int.cast_ofNat_Int, Int.reduceBEq, i64w, decide_true, decide_false, Int.le_refl, Nat.min_def, reduceIte, Int.one_mul, bits64, Int.natCast_add, Bool.false_eq_true, list_beq, Option.getD_some, Option.getD_none, Nat.mul_one, List.drop_zero, rl1, rl3, tk3, tk1, ex3n, ex1n, ex3, ex1, numsOf_bytes, numsOf_nil, textOf_bytes, textOf_nil, ofL_list, decide_eq_true_eq, wk_and, int_bne, ne_eq, not_true, if_false, e1, e2]
  have hb : decode ByteArray.empty.data.toList = [] := rfl
  have hg : ¬ grE [] = true := by decide
  refine ⟨by show (0 : Nat) ≤ _; omega, ?_⟩
  rw [if_neg hg]
  have hE : okLE ((), []) := ⟨by simp, fun e he => by simp at he⟩
  refine ⟨hE, fun _ => ⟨hE, fun _ q => q = Sum.inl (0, 0), 0, rfl, fun a n h => ?_, fun a n h => by cases h⟩, fun h => h.elim⟩
  cases h
  simp only [Int.reduceLT, if_false, not_true]
  exact ⟨okSt_e, fun _ => ⟨okL2_e, hR _⟩, fun h => absurd hb h⟩
end Go.Proofs.Ytnfbgfmdjaodgaa.ScriptRun
