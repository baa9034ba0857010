/- ScriptBack: the end. -/
import Derived.Test.YtnfbgfmdjaodgaaScriptSc
set_option linter.unusedVariables false
set_option linter.unusedSimpArgs false
open Go Go.Proofs.Ytnfbgfmdjaodgaa.Eng Go.RowKit
namespace Go.Proofs.Ytnfbgfmdjaodgaa.ScriptRun
section
variable (De : List UInt8 → List Ev) (DeS : ByteArray → List Ev) (Sm : List Ev → List Ev → Bool) (bl : List Ev → List UInt8) (er : List Ev → Int) (Gr : List Ev → Bool) (nn : List Ev → Int) (ov : Ev → Bool)
theorem dnn00 (R : AV → Hp → Prop) : (wpL P (TL De DeS Sm bl er Gr nn ov) noW noL 0 (tlC 15 (tlC 12 (tlC 8 b5))) (u15nn_00) (finQ P Go.Proofs.Try.f5 R)) = (Holds ((0 : Int) ≤ (0 : Int) ∧ (0 : Int) ≤ (↑(0 : Nat) : Int)) ∧ Holds (okL2 ((), [], [])) ∧ br (Sm [] []) (Holds ((0 : Int) ≤ (0 : Int) ∧ (0 : Int) ≤ (↑(0 : Nat) : Int)) ∧ Holds (okL2 ((), [], [])) ∧ R (AV.bo (Sm [] [])) []) (R (AV.bo false) [])) := by kernel_rfl
theorem dns00 (N : List Ev) (R : AV → Hp → Prop) : (wpL P (TL De DeS Sm bl er Gr nn ov) noW noL 0 (tlC 15 (tlC 12 (tlC 8 b5))) (u15ns_00 N) (finQ P Go.Proofs.Try.f5 R)) = (br ((↑(List.length N) : Int) == IntKind.wrap .i64 ((0 : Int) + (0 : Int))) (Holds ((0 : Int) ≤ (0 : Int) ∧ (0 : Int) ≤ (↑(Option.getD none (List.length N)) : Int)) ∧ Holds (0 ≤ 0) ∧ Holds (0 ≤ List.length (recs mkEv N)) ∧ ∃ (l : List Ev), Holds ([] = recs mkEv l) ∧ Holds (List.length l = 0) ∧ Holds (okL2 ((), l, [])) ∧ br (Sm l []) (Holds ((0 : Int) ≤ (0 : Int) ∧ (0 : Int) ≤ (↑(List.length N) : Int)) ∧ Holds (List.length N - 0 ≤ Option.getD (Option.map (fun (c : Nat) => c - Int.toNat (0 : Int)) none) (List.length N - Int.toNat (0 : Int))) ∧ Holds (0 + (List.length N - 0) * 3 ≤ List.length (recs mkEv N)) ∧ ∃ (l : List Ev), Holds (List.take ((List.length N - 0) * 3) (List.drop 0 (recs mkEv N)) = recs mkEv l) ∧ Holds (List.length l = List.length N - 0) ∧ Holds (okL2 ((), l, [])) ∧ R (AV.bo (Sm l [])) [Blk.cells (recs mkEv N) true]) (R (AV.bo false) [Blk.cells (recs mkEv N) true])) (R (AV.bo false) [Blk.cells (recs mkEv N) true])) := by kernel_rfl
theorem dsn00 (m : List Ev) (R : AV → Hp → Prop) : (wpL P (TL De DeS Sm bl er Gr nn ov) noW noL 0 (tlC 15 (tlC 12 (tlC 8 b5))) (u15sn_00 m) (finQ P Go.Proofs.Try.f5 R)) = (br ((0 : Int) == IntKind.wrap .i64 ((0 : Int) + (↑(List.length m) : Int))) (Holds ((0 : Int) ≤ (0 : Int) ∧ (0 : Int) ≤ (↑(0 : Nat) : Int)) ∧ Holds (okL2 ((), [], [])) ∧ br (Sm [] []) (Holds ((0 : Int) ≤ (0 : Int) ∧ (0 : Int) ≤ (↑(0 : Nat) : Int)) ∧ Holds (List.length m ≤ Option.getD none (List.length m)) ∧ Holds (0 + List.length m * 3 ≤ List.length (recs mkEv m)) ∧ ∃ (l : List Ev), Holds (List.take (List.length m * 3) (List.drop 0 (recs mkEv m)) = recs mkEv l) ∧ Holds (List.length l = List.length m) ∧ Holds (okL2 ((), [], l)) ∧ R (AV.bo (Sm [] l)) [Blk.cells (recs mkEv m) true]) (R (AV.bo false) [Blk.cells (recs mkEv m) true])) (R (AV.bo false) [Blk.cells (recs mkEv m) true])) := by kernel_rfl
theorem dss00 (m N : List Ev) (R : AV → Hp → Prop) : (wpL P (TL De DeS Sm bl er Gr nn ov) noW noL 0 (tlC 15 (tlC 12 (tlC 8 b5))) (u15ss_00 m N) (finQ P Go.Proofs.Try.f5 R)) = (br ((↑(List.length N) : Int) == IntKind.wrap .i64 ((0 : Int) + (↑(List.length m) : Int))) (Holds ((0 : Int) ≤ (0 : Int) ∧ (0 : Int) ≤ (↑(Option.getD none (List.length N)) : Int)) ∧ Holds (0 ≤ 0) ∧ Holds (0 ≤ List.length (recs mkEv N)) ∧ ∃ (l : List Ev), Holds ([] = recs mkEv l) ∧ Holds (List.length l = 0) ∧ Holds (okL2 ((), l, [])) ∧ br (Sm l []) (Holds ((0 : Int) ≤ (0 : Int) ∧ (0 : Int) ≤ (↑(List.length N) : Int)) ∧ Holds (List.length N - 0 ≤ Option.getD (Option.map (fun (c : Nat) => c - Int.toNat (0 : Int)) none) (List.length N - Int.toNat (0 : Int))) ∧ Holds (0 + (List.length N - 0) * 3 ≤ List.length (recs mkEv N)) ∧ ∃ (l : List Ev), Holds (List.take ((List.length N - 0) * 3) (List.drop 0 (recs mkEv N)) = recs mkEv l) ∧ Holds (List.length l = List.length N - 0) ∧ Holds (List.length m ≤ Option.getD none (List.length m)) ∧ Holds (0 + List.length m * 3 ≤ List.length (recs mkEv m)) ∧ ∃ (l_1 : List Ev), Holds (List.take (List.length m * 3) (List.drop 0 (recs mkEv m)) = recs mkEv l_1) ∧ Holds (List.length l_1 = List.length m) ∧ Holds (okL2 ((), l, l_1)) ∧ R (AV.bo (Sm l l_1)) [Blk.cells (recs mkEv m) true, Blk.cells (recs mkEv N) true]) (R (AV.bo false) [Blk.cells (recs mkEv m) true, Blk.cells (recs mkEv N) true])) (R (AV.bo false) [Blk.cells (recs mkEv m) true, Blk.cells (recs mkEv N) true])) := by kernel_rfl
theorem dnn01 (nb capb : Nat) (cb : List AV) (R : AV → Hp → Prop) : (wpL P (TL De DeS Sm bl er Gr nn ov) noW noL 1 (tlC 15 (tlC 12 (tlC 8 b5))) (u15nn_01 nb capb cb) (finQ P Go.Proofs.Try.f5 R)) = (Holds ((0 : Int) ≤ (0 : Int) ∧ (0 : Int) ≤ (↑(0 : Nat) : Int)) ∧ Holds (okL2 ((), [], [])) ∧ br (Sm [] []) (Holds ((0 : Int) ≤ (0 : Int) ∧ (0 : Int) ≤ (↑(0 : Nat) : Int)) ∧ Holds (okL2 ((), [], [])) ∧ R (AV.bo (Sm [] [])) [Blk.cells cb false]) (R (AV.bo false) [Blk.cells cb false])) := by kernel_rfl
theorem dns01 (nb capb : Nat) (cb : List AV) (N : List Ev) (R : AV → Hp → Prop) : (wpL P (TL De DeS Sm bl er Gr nn ov) noW noL 1 (tlC 15 (tlC 12 (tlC 8 b5))) (u15ns_01 nb capb cb N) (finQ P Go.Proofs.Try.f5 R)) = (br ((↑(List.length N) : Int) == IntKind.wrap .i64 ((0 : Int) + (0 : Int))) (Holds ((0 : Int) ≤ (0 : Int) ∧ (0 : Int) ≤ (↑(Option.getD none (List.length N)) : Int)) ∧ Holds (0 ≤ 0) ∧ Holds (0 ≤ List.length (recs mkEv N)) ∧ ∃ (l : List Ev), Holds ([] = recs mkEv l) ∧ Holds (List.length l = 0) ∧ Holds (okL2 ((), l, [])) ∧ br (Sm l []) (Holds ((0 : Int) ≤ (0 : Int) ∧ (0 : Int) ≤ (↑(List.length N) : Int)) ∧ Holds (List.length N - 0 ≤ Option.getD (Option.map (fun (c : Nat) => c - Int.toNat (0 : Int)) none) (List.length N - Int.toNat (0 : Int))) ∧ Holds (0 + (List.length N - 0) * 3 ≤ List.length (recs mkEv N)) ∧ ∃ (l : List Ev), Holds (List.take ((List.length N - 0) * 3) (List.drop 0 (recs mkEv N)) = recs mkEv l) ∧ Holds (List.length l = List.length N - 0) ∧ Holds (okL2 ((), l, [])) ∧ R (AV.bo (Sm l [])) [Blk.cells cb false, Blk.cells (recs mkEv N) true]) (R (AV.bo false) [Blk.cells cb false, Blk.cells (recs mkEv N) true])) (R (AV.bo false) [Blk.cells cb false, Blk.cells (recs mkEv N) true])) := by kernel_rfl
theorem dsn01 (nb capb : Nat) (cb : List AV) (m : List Ev) (R : AV → Hp → Prop) : (wpL P (TL De DeS Sm bl er Gr nn ov) noW noL 1 (tlC 15 (tlC 12 (tlC 8 b5))) (u15sn_01 nb capb cb m) (finQ P Go.Proofs.Try.f5 R)) = (br ((0 : Int) == IntKind.wrap .i64 ((0 : Int) + (↑(List.length m) : Int))) (Holds ((0 : Int) ≤ (0 : Int) ∧ (0 : Int) ≤ (↑(0 : Nat) : Int)) ∧ Holds (okL2 ((), [], [])) ∧ br (Sm [] []) (Holds ((0 : Int) ≤ (0 : Int) ∧ (0 : Int) ≤ (↑(0 : Nat) : Int)) ∧ Holds (List.length m ≤ Option.getD none (List.length m)) ∧ Holds (0 + List.length m * 3 ≤ List.length (recs mkEv m)) ∧ ∃ (l : List Ev), Holds (List.take (List.length m * 3) (List.drop 0 (recs mkEv m)) = recs mkEv l) ∧ Holds (List.length l = List.length m) ∧ Holds (okL2 ((), [], l)) ∧ R (AV.bo (Sm [] l)) [Blk.cells cb false, Blk.cells (recs mkEv m) true]) (R (AV.bo false) [Blk.cells cb false, Blk.cells (recs mkEv m) true])) (R (AV.bo false) [Blk.cells cb false, Blk.cells (recs mkEv m) true])) := by kernel_rfl
theorem dss01 (nb capb : Nat) (cb : List AV) (m N : List Ev) (R : AV → Hp → Prop) : (wpL P (TL De DeS Sm bl er Gr nn ov) noW noL 1 (tlC 15 (tlC 12 (tlC 8 b5))) (u15ss_01 nb capb cb m N) (finQ P Go.Proofs.Try.f5 R)) = (br ((↑(List.length N) : Int) == IntKind.wrap .i64 ((0 : Int) + (↑(List.length m) : Int))) (Holds ((0 : Int) ≤ (0 : Int) ∧ (0 : Int) ≤ (↑(Option.getD none (List.length N)) : Int)) ∧ Holds (0 ≤ 0) ∧ Holds (0 ≤ List.length (recs mkEv N)) ∧ ∃ (l : List Ev), Holds ([] = recs mkEv l) ∧ Holds (List.length l = 0) ∧ Holds (okL2 ((), l, [])) ∧ br (Sm l []) (Holds ((0 : Int) ≤ (0 : Int) ∧ (0 : Int) ≤ (↑(List.length N) : Int)) ∧ Holds (List.length N - 0 ≤ Option.getD (Option.map (fun (c : Nat) => c - Int.toNat (0 : Int)) none) (List.length N - Int.toNat (0 : Int))) ∧ Holds (0 + (List.length N - 0) * 3 ≤ List.length (recs mkEv N)) ∧ ∃ (l : List Ev), Holds (List.take ((List.length N - 0) * 3) (List.drop 0 (recs mkEv N)) = recs mkEv l) ∧ Holds (List.length l = List.length N - 0) ∧ Holds (List.length m ≤ Option.getD none (List.length m)) ∧ Holds (0 + List.length m * 3 ≤ List.length (recs mkEv m)) ∧ ∃ (l_1 : List Ev), Holds (List.take (List.length m * 3) (List.drop 0 (recs mkEv m)) = recs mkEv l_1) ∧ Holds (List.length l_1 = List.length m) ∧ Holds (okL2 ((), l, l_1)) ∧ R (AV.bo (Sm l l_1)) [Blk.cells cb false, Blk.cells (recs mkEv m) true, Blk.cells (recs mkEv N) true]) (R (AV.bo false) [Blk.cells cb false, Blk.cells (recs mkEv m) true, Blk.cells (recs mkEv N) true])) (R (AV.bo false) [Blk.cells cb false, Blk.cells (recs mkEv m) true, Blk.cells (recs mkEv N) true])) := by kernel_rfl
theorem dnn10 (nl capl : Nat) (cl : List AV) (R : AV → Hp → Prop) : (wpL P (TL De DeS Sm bl er Gr nn ov) noW noL 1 (tlC 15 (tlC 12 (tlC 8 b5))) (u15nn_10 nl capl cl) (finQ P Go.Proofs.Try.f5 R)) = (br ((0 : Int) == IntKind.wrap .i64 ((↑nl : Int) + (0 : Int))) (Holds ((0 : Int) ≤ (↑nl : Int) ∧ (↑nl : Int) ≤ (↑(0 : Nat) : Int)) ∧ Holds (nl ≤ capl) ∧ Holds (0 + nl * 3 ≤ List.length cl) ∧ ∃ (l : List Ev), Holds (List.take (nl * 3) cl = recs mkEv l) ∧ Holds (List.length l = nl) ∧ Holds (okL2 ((), [], l)) ∧ br (Sm [] l) (Holds ((0 : Int) ≤ (↑nl : Int) ∧ (↑nl : Int) ≤ (↑(0 : Nat) : Int)) ∧ Holds (okL2 ((), [], [])) ∧ R (AV.bo (Sm [] [])) [Blk.cells cl false]) (R (AV.bo false) [Blk.cells cl false])) (R (AV.bo false) [Blk.cells cl false])) := by kernel_rfl
theorem dns10 (nl capl : Nat) (cl : List AV) (N : List Ev) (R : AV → Hp → Prop) : (wpL P (TL De DeS Sm bl er Gr nn ov) noW noL 1 (tlC 15 (tlC 12 (tlC 8 b5))) (u15ns_10 nl capl cl N) (finQ P Go.Proofs.Try.f5 R)) = (br ((↑(List.length N) : Int) == IntKind.wrap .i64 ((↑nl : Int) + (0 : Int))) (Holds ((0 : Int) ≤ (↑nl : Int) ∧ (↑nl : Int) ≤ (↑(Option.getD none (List.length N)) : Int)) ∧ Holds (nl ≤ nl) ∧ Holds (0 + nl * 3 ≤ List.length (recs mkEv N)) ∧ ∃ (l : List Ev), Holds (List.take (nl * 3) (List.drop 0 (recs mkEv N)) = recs mkEv l) ∧ Holds (List.length l = nl) ∧ Holds (nl ≤ capl) ∧ Holds (0 + nl * 3 ≤ List.length cl) ∧ ∃ (l_1 : List Ev), Holds (List.take (nl * 3) cl = recs mkEv l_1) ∧ Holds (List.length l_1 = nl) ∧ Holds (okL2 ((), l, l_1)) ∧ br (Sm l l_1) (Holds ((0 : Int) ≤ (↑nl : Int) ∧ (↑nl : Int) ≤ (↑(List.length N) : Int)) ∧ Holds (List.length N - nl ≤ Option.getD (Option.map (fun (c : Nat) => c - Int.toNat (↑nl : Int)) none) (List.length N - Int.toNat (↑nl : Int))) ∧ Holds (0 + nl * 3 + (List.length N - nl) * 3 ≤ List.length (recs mkEv N)) ∧ ∃ (l : List Ev), Holds (List.take ((List.length N - nl) * 3) (List.drop (0 + nl * 3) (recs mkEv N)) = recs mkEv l) ∧ Holds (List.length l = List.length N - nl) ∧ Holds (okL2 ((), l, [])) ∧ R (AV.bo (Sm l [])) [Blk.cells cl false, Blk.cells (recs mkEv N) true]) (R (AV.bo false) [Blk.cells cl false, Blk.cells (recs mkEv N) true])) (R (AV.bo false) [Blk.cells cl false, Blk.cells (recs mkEv N) true])) := by kernel_rfl
theorem dsn10 (nl capl : Nat) (cl : List AV) (m : List Ev) (R : AV → Hp → Prop) : (wpL P (TL De DeS Sm bl er Gr nn ov) noW noL 1 (tlC 15 (tlC 12 (tlC 8 b5))) (u15sn_10 nl capl cl m) (finQ P Go.Proofs.Try.f5 R)) = (br ((0 : Int) == IntKind.wrap .i64 ((↑nl : Int) + (↑(List.length m) : Int))) (Holds ((0 : Int) ≤ (↑nl : Int) ∧ (↑nl : Int) ≤ (↑(0 : Nat) : Int)) ∧ Holds (nl ≤ capl) ∧ Holds (0 + nl * 3 ≤ List.length cl) ∧ ∃ (l : List Ev), Holds (List.take (nl * 3) cl = recs mkEv l) ∧ Holds (List.length l = nl) ∧ Holds (okL2 ((), [], l)) ∧ br (Sm [] l) (Holds ((0 : Int) ≤ (↑nl : Int) ∧ (↑nl : Int) ≤ (↑(0 : Nat) : Int)) ∧ Holds (List.length m ≤ Option.getD none (List.length m)) ∧ Holds (0 + List.length m * 3 ≤ List.length (recs mkEv m)) ∧ ∃ (l : List Ev), Holds (List.take (List.length m * 3) (List.drop 0 (recs mkEv m)) = recs mkEv l) ∧ Holds (List.length l = List.length m) ∧ Holds (okL2 ((), [], l)) ∧ R (AV.bo (Sm [] l)) [Blk.cells cl false, Blk.cells (recs mkEv m) true]) (R (AV.bo false) [Blk.cells cl false, Blk.cells (recs mkEv m) true])) (R (AV.bo false) [Blk.cells cl false, Blk.cells (recs mkEv m) true])) := by kernel_rfl
theorem dss10 (nl capl : Nat) (cl : List AV) (m N : List Ev) (R : AV → Hp → Prop) : (wpL P (TL De DeS Sm bl er Gr nn ov) noW noL 1 (tlC 15 (tlC 12 (tlC 8 b5))) (u15ss_10 nl capl cl m N) (finQ P Go.Proofs.Try.f5 R)) = (br ((↑(List.length N) : Int) == IntKind.wrap .i64 ((↑nl : Int) + (↑(List.length m) : Int))) (Holds ((0 : Int) ≤ (↑nl : Int) ∧ (↑nl : Int) ≤ (↑(Option.getD none (List.length N)) : Int)) ∧ Holds (nl ≤ nl) ∧ Holds (0 + nl * 3 ≤ List.length (recs mkEv N)) ∧ ∃ (l : List Ev), Holds (List.take (nl * 3) (List.drop 0 (recs mkEv N)) = recs mkEv l) ∧ Holds (List.length l = nl) ∧ Holds (nl ≤ capl) ∧ Holds (0 + nl * 3 ≤ List.length cl) ∧ ∃ (l_1 : List Ev), Holds (List.take (nl * 3) cl = recs mkEv l_1) ∧ Holds (List.length l_1 = nl) ∧ Holds (okL2 ((), l, l_1)) ∧ br (Sm l l_1) (Holds ((0 : Int) ≤ (↑nl : Int) ∧ (↑nl : Int) ≤ (↑(List.length N) : Int)) ∧ Holds (List.length N - nl ≤ Option.getD (Option.map (fun (c : Nat) => c - Int.toNat (↑nl : Int)) none) (List.length N - Int.toNat (↑nl : Int))) ∧ Holds (0 + nl * 3 + (List.length N - nl) * 3 ≤ List.length (recs mkEv N)) ∧ ∃ (l : List Ev), Holds (List.take ((List.length N - nl) * 3) (List.drop (0 + nl * 3) (recs mkEv N)) = recs mkEv l) ∧ Holds (List.length l = List.length N - nl) ∧ Holds (List.length m ≤ Option.getD none (List.length m)) ∧ Holds (0 + List.length m * 3 ≤ List.length (recs mkEv m)) ∧ ∃ (l_2 : List Ev), Holds (List.take (List.length m * 3) (List.drop 0 (recs mkEv m)) = recs mkEv l_2) ∧ Holds (List.length l_2 = List.length m) ∧ Holds (okL2 ((), l, l_2)) ∧ R (AV.bo (Sm l l_2)) [Blk.cells cl false, Blk.cells (recs mkEv m) true, Blk.cells (recs mkEv N) true]) (R (AV.bo false) [Blk.cells cl false, Blk.cells (recs mkEv m) true, Blk.cells (recs mkEv N) true])) (R (AV.bo false) [Blk.cells cl false, Blk.cells (recs mkEv m) true, Blk.cells (recs mkEv N) true])) := by kernel_rfl
theorem dnn11 (nl capl : Nat) (cl : List AV) (nb capb : Nat) (cb : List AV) (R : AV → Hp → Prop) : (wpL P (TL De DeS Sm bl er Gr nn ov) noW noL 2 (tlC 15 (tlC 12 (tlC 8 b5))) (u15nn_11 nl capl cl nb capb cb) (finQ P Go.Proofs.Try.f5 R)) = (br ((0 : Int) == IntKind.wrap .i64 ((↑nl : Int) + (0 : Int))) (Holds ((0 : Int) ≤ (↑nl : Int) ∧ (↑nl : Int) ≤ (↑(0 : Nat) : Int)) ∧ Holds (nl ≤ capl) ∧ Holds (0 + nl * 3 ≤ List.length cl) ∧ ∃ (l : List Ev), Holds (List.take (nl * 3) cl = recs mkEv l) ∧ Holds (List.length l = nl) ∧ Holds (okL2 ((), [], l)) ∧ br (Sm [] l) (Holds ((0 : Int) ≤ (↑nl : Int) ∧ (↑nl : Int) ≤ (↑(0 : Nat) : Int)) ∧ Holds (okL2 ((), [], [])) ∧ R (AV.bo (Sm [] [])) [Blk.cells cl false, Blk.cells cb false]) (R (AV.bo false) [Blk.cells cl false, Blk.cells cb false])) (R (AV.bo false) [Blk.cells cl false, Blk.cells cb false])) := by kernel_rfl
theorem dns11 (nl capl : Nat) (cl : List AV) (nb capb : Nat) (cb : List AV) (N : List Ev) (R : AV → Hp → Prop) : (wpL P (TL De DeS Sm bl er Gr nn ov) noW noL 2 (tlC 15 (tlC 12 (tlC 8 b5))) (u15ns_11 nl capl cl nb capb cb N) (finQ P Go.Proofs.Try.f5 R)) = (br ((↑(List.length N) : Int) == IntKind.wrap .i64 ((↑nl : Int) + (0 : Int))) (Holds ((0 : Int) ≤ (↑nl : Int) ∧ (↑nl : Int) ≤ (↑(Option.getD none (List.length N)) : Int)) ∧ Holds (nl ≤ nl) ∧ Holds (0 + nl * 3 ≤ List.length (recs mkEv N)) ∧ ∃ (l : List Ev), Holds (List.take (nl * 3) (List.drop 0 (recs mkEv N)) = recs mkEv l) ∧ Holds (List.length l = nl) ∧ Holds (nl ≤ capl) ∧ Holds (0 + nl * 3 ≤ List.length cl) ∧ ∃ (l_1 : List Ev), Holds (List.take (nl * 3) cl = recs mkEv l_1) ∧ Holds (List.length l_1 = nl) ∧ Holds (okL2 ((), l, l_1)) ∧ br (Sm l l_1) (Holds ((0 : Int) ≤ (↑nl : Int) ∧ (↑nl : Int) ≤ (↑(List.length N) : Int)) ∧ Holds (List.length N - nl ≤ Option.getD (Option.map (fun (c : Nat) => c - Int.toNat (↑nl : Int)) none) (List.length N - Int.toNat (↑nl : Int))) ∧ Holds (0 + nl * 3 + (List.length N - nl) * 3 ≤ List.length (recs mkEv N)) ∧ ∃ (l : List Ev), Holds (List.take ((List.length N - nl) * 3) (List.drop (0 + nl * 3) (recs mkEv N)) = recs mkEv l) ∧ Holds (List.length l = List.length N - nl) ∧ Holds (okL2 ((), l, [])) ∧ R (AV.bo (Sm l [])) [Blk.cells cl false, Blk.cells cb false, Blk.cells (recs mkEv N) true]) (R (AV.bo false) [Blk.cells cl false, Blk.cells cb false, Blk.cells (recs mkEv N) true])) (R (AV.bo false) [Blk.cells cl false, Blk.cells cb false, Blk.cells (recs mkEv N) true])) := by kernel_rfl
theorem dsn11 (nl capl : Nat) (cl : List AV) (nb capb : Nat) (cb : List AV) (m : List Ev) (R : AV → Hp → Prop) : (wpL P (TL De DeS Sm bl er Gr nn ov) noW noL 2 (tlC 15 (tlC 12 (tlC 8 b5))) (u15sn_11 nl capl cl nb capb cb m) (finQ P Go.Proofs.Try.f5 R)) = (br ((0 : Int) == IntKind.wrap .i64 ((↑nl : Int) + (↑(List.length m) : Int))) (Holds ((0 : Int) ≤ (↑nl : Int) ∧ (↑nl : Int) ≤ (↑(0 : Nat) : Int)) ∧ Holds (nl ≤ capl) ∧ Holds (0 + nl * 3 ≤ List.length cl) ∧ ∃ (l : List Ev), Holds (List.take (nl * 3) cl = recs mkEv l) ∧ Holds (List.length l = nl) ∧ Holds (okL2 ((), [], l)) ∧ br (Sm [] l) (Holds ((0 : Int) ≤ (↑nl : Int) ∧ (↑nl : Int) ≤ (↑(0 : Nat) : Int)) ∧ Holds (List.length m ≤ Option.getD none (List.length m)) ∧ Holds (0 + List.length m * 3 ≤ List.length (recs mkEv m)) ∧ ∃ (l : List Ev), Holds (List.take (List.length m * 3) (List.drop 0 (recs mkEv m)) = recs mkEv l) ∧ Holds (List.length l = List.length m) ∧ Holds (okL2 ((), [], l)) ∧ R (AV.bo (Sm [] l)) [Blk.cells cl false, Blk.cells cb false, Blk.cells (recs mkEv m) true]) (R (AV.bo false) [Blk.cells cl false, Blk.cells cb false, Blk.cells (recs mkEv m) true])) (R (AV.bo false) [Blk.cells cl false, Blk.cells cb false, Blk.cells (recs mkEv m) true])) := by kernel_rfl
theorem dss11 (nl capl : Nat) (cl : List AV) (nb capb : Nat) (cb : List AV) (m N : List Ev) (R : AV → Hp → Prop) : (wpL P (TL De DeS Sm bl er Gr nn ov) noW noL 2 (tlC 15 (tlC 12 (tlC 8 b5))) (u15ss_11 nl capl cl nb capb cb m N) (finQ P Go.Proofs.Try.f5 R)) = (br ((↑(List.length N) : Int) == IntKind.wrap .i64 ((↑nl : Int) + (↑(List.length m) : Int))) (Holds ((0 : Int) ≤ (↑nl : Int) ∧ (↑nl : Int) ≤ (↑(Option.getD none (List.length N)) : Int)) ∧ Holds (nl ≤ nl) ∧ Holds (0 + nl * 3 ≤ List.length (recs mkEv N)) ∧ ∃ (l : List Ev), Holds (List.take (nl * 3) (List.drop 0 (recs mkEv N)) = recs mkEv l) ∧ Holds (List.length l = nl) ∧ Holds (nl ≤ capl) ∧ Holds (0 + nl * 3 ≤ List.length cl) ∧ ∃ (l_1 : List Ev), Holds (List.take (nl * 3) cl = recs mkEv l_1) ∧ Holds (List.length l_1 = nl) ∧ Holds (okL2 ((), l, l_1)) ∧ br (Sm l l_1) (Holds ((0 : Int) ≤ (↑nl : Int) ∧ (↑nl : Int) ≤ (↑(List.length N) : Int)) ∧ Holds (List.length N - nl ≤ Option.getD (Option.map (fun (c : Nat) => c - Int.toNat (↑nl : Int)) none) (List.length N - Int.toNat (↑nl : Int))) ∧ Holds (0 + nl * 3 + (List.length N - nl) * 3 ≤ List.length (recs mkEv N)) ∧ ∃ (l : List Ev), Holds (List.take ((List.length N - nl) * 3) (List.drop (0 + nl * 3) (recs mkEv N)) = recs mkEv l) ∧ Holds (List.length l = List.length N - nl) ∧ Holds (List.length m ≤ Option.getD none (List.length m)) ∧ Holds (0 + List.length m * 3 ≤ List.length (recs mkEv m)) ∧ ∃ (l_2 : List Ev), Holds (List.take (List.length m * 3) (List.drop 0 (recs mkEv m)) = recs mkEv l_2) ∧ Holds (List.length l_2 = List.length m) ∧ Holds (okL2 ((), l, l_2)) ∧ R (AV.bo (Sm l l_2)) [Blk.cells cl false, Blk.cells cb false, Blk.cells (recs mkEv m) true, Blk.cells (recs mkEv N) true]) (R (AV.bo false) [Blk.cells cl false, Blk.cells cb false, Blk.cells (recs mkEv m) true, Blk.cells (recs mkEv N) true])) (R (AV.bo false) [Blk.cells cl false, Blk.cells cb false, Blk.cells (recs mkEv m) true, Blk.cells (recs mkEv N) true])) := by kernel_rfl
end
set_option maxRecDepth 100000 in
theorem pdnn00 (R : AV → Hp → Prop) (hR : ∀ h, R (.bo true) h) :
    Holds (wpL P TLs noW noL 0 (tlC 15 (tlC 12 (tlC 8 b5))) (u15nn_00) (finQ P Go.Proofs.Try.f5 R)) := by
  refine ⟨?_⟩
  refine Eq.mpr (dnn00 _ _ _ _ _ _ _ _ _) ?_
  simp only [↓br_ite, ↓reduceIte, holds_eq, List.getElem?_cons_zero, List.getElem?_cons_succ, Option.some.injEq, AV.i.injEq, AV.s.injEq, AV.bo.injEq, true_and, and_true, List.cons.injEq, List.length_cons, List.length_nil, and_assoc, exists_and_left, exists_eq_left', exists_eq_left, br_true, br_false, Nat.zero_add, Nat.add_zero, Nat.reduceAdd, Nat.reduceLeDiff, Nat.le_refl, numsOf_one, beq_self_eq_true, Int.reduceLE, Int.reduceLT, Int.reduceAdd, Int.reduceSub, Int.reduceMul, Int.reduceNeg, Int.reduceToNat, Int.reducePow, Int.reduceMod, Int.reduceDiv, Int.cast_ofNat_Int, Int.reduceBEq, i64w, decide_true, decide_false, Int.le_refl, Nat.min_def, reduceIte, Int.one_mul, bits64, Int.natCast_add, Bool.false_eq_true, wk_and, list_beq, Option.getD_some, Option.getD_none, Nat.mul_one, List.drop_zero, rl1, rl3, tk3, tk1, ex3n, ex1n, ex3, ex1, ex1', ex3', decide_eq_true_eq, dec0, enc0, gr0, tk3n, dr3n, List.length_append, List.take_left, List.drop_left, List.nil_append, List.append_nil, List.take_length, List.drop_length, List.take_zero, List.drop_zero, Nat.zero_mul, Nat.add_sub_cancel_left, Int.toNat_natCast, Int.toNat_zero, Option.map_none, Option.getD_none, beq_self_eq_true, decide_true, Int.natCast_add, Nat.sub_self, Nat.sub_zero]
  repeat' (first | with_reducible apply And.intro | intro _)
  all_goals first
    | omega
    | exact hR _
    | trivial
    | exact l2_ok (by simp only [List.length_nil]; omega) (by simp only [List.length_nil]; omega)
    | exact l2_ok (by omega) (by simp only [List.length_nil]; omega)
    | exact l2_ok (by simp only [List.length_nil]; omega) (by omega)
    | exact l2_ok (by omega) (by omega)
set_option maxRecDepth 100000 in
theorem pdns00 (hne : (([] : List Ev) ++ []) ≠ []) (R : AV → Hp → Prop) (hR : ∀ h, R (.bo true) h) :
    Holds (wpL P TLs noW noL 0 (tlC 15 (tlC 12 (tlC 8 b5))) (u15ns_00 (([] : List Ev) ++ [])) (finQ P Go.Proofs.Try.f5 R)) := by
  refine ⟨?_⟩
  exact absurd rfl hne
set_option maxRecDepth 100000 in
theorem pdsn00 (m : List Ev) (hm1 : m.length ≤ 4096) (hm0 : m = []) (R : AV → Hp → Prop) (hR : ∀ h, R (.bo true) h) :
    Holds (wpL P TLs noW noL 0 (tlC 15 (tlC 12 (tlC 8 b5))) (u15sn_00 m) (finQ P Go.Proofs.Try.f5 R)) := by
  refine ⟨?_⟩
  refine Eq.mpr (dsn00 _ _ _ _ _ _ _ _ _ _) ?_
  subst hm0
  simp only [↓br_ite, ↓reduceIte, holds_eq, List.getElem?_cons_zero, List.getElem?_cons_succ, Option.some.injEq, AV.i.injEq, AV.s.injEq, AV.bo.injEq, true_and, and_true, List.cons.injEq, List.length_cons, List.length_nil, and_assoc, exists_and_left, exists_eq_left', exists_eq_left, br_true, br_false, Nat.zero_add, Nat.add_zero, Nat.reduceAdd, Nat.reduceLeDiff, Nat.le_refl, numsOf_one, beq_self_eq_true, Int.reduceLE, Int.reduceLT, Int.reduceAdd, Int.reduceSub, Int.reduceMul, Int.reduceNeg, Int.reduceToNat, Int.reducePow, Int.reduceMod, Int.reduceDiv, Int.cast_ofNat_Int, Int.reduceBEq, i64w, decide_true, decide_false, Int.le_refl, Nat.min_def, reduceIte, Int.one_mul, bits64, Int.natCast_add, Bool.false_eq_true, wk_and, list_beq, Option.getD_some, Option.getD_none, Nat.mul_one, List.drop_zero, rl1, rl3, tk3, tk1, ex3n, ex1n, ex3, ex1, ex1', ex3', decide_eq_true_eq, dec0, enc0, gr0, tk3n, dr3n, List.length_append, List.take_left, List.drop_left, List.nil_append, List.append_nil, List.take_length, List.drop_length, List.take_zero, List.drop_zero, Nat.zero_mul, Nat.add_sub_cancel_left, Int.toNat_natCast, Int.toNat_zero, Option.map_none, Option.getD_none, beq_self_eq_true, decide_true, Int.natCast_add, Nat.sub_self, Nat.sub_zero]
  repeat' (first | with_reducible apply And.intro | intro _)
  all_goals first
    | omega
    | exact hR _
    | trivial
    | exact l2_ok (by simp only [List.length_nil]; omega) (by simp only [List.length_nil]; omega)
    | exact l2_ok (by omega) (by simp only [List.length_nil]; omega)
    | exact l2_ok (by simp only [List.length_nil]; omega) (by omega)
    | exact l2_ok (by omega) (by omega)
set_option maxRecDepth 100000 in
theorem pdss00 (m : List Ev) (hm1 : m.length ≤ 4096) (hne : (([] : List Ev) ++ m) ≠ []) (R : AV → Hp → Prop) (hR : ∀ h, R (.bo true) h) :
    Holds (wpL P TLs noW noL 0 (tlC 15 (tlC 12 (tlC 8 b5))) (u15ss_00 m (([] : List Ev) ++ m)) (finQ P Go.Proofs.Try.f5 R)) := by
  refine ⟨?_⟩
  refine Eq.mpr (dss00 _ _ _ _ _ _ _ _ _ _ _) ?_
  have w2 : IntKind.wrap .i64 (0 + (m.length : Int)) = (m.length : Int) := by rw [i64w (by omega) (by omega)] <;> omega
  simp only [↓br_ite, ↓reduceIte, holds_eq, List.getElem?_cons_zero, List.getElem?_cons_succ, Option.some.injEq, AV.i.injEq, AV.s.injEq, AV.bo.injEq, true_and, and_true, List.cons.injEq, List.length_cons, List.length_nil, and_assoc, exists_and_left, exists_eq_left', exists_eq_left, br_true, br_false, Nat.zero_add, Nat.add_zero, Nat.reduceAdd, Nat.reduceLeDiff, Nat.le_refl, numsOf_one, beq_self_eq_true, Int.reduceLE, Int.reduceLT, Int.reduceAdd, Int.reduceSub, Int.reduceMul, Int.reduceNeg, Int.reduceToNat, Int.reducePow, Int.reduceMod, Int.reduceDiv, Int.cast_ofNat_Int, Int.reduceBEq, i64w, decide_true, decide_false, Int.le_refl, Nat.min_def, reduceIte, Int.one_mul, bits64, Int.natCast_add, Bool.false_eq_true, wk_and, list_beq, Option.getD_some, Option.getD_none, Nat.mul_one, List.drop_zero, rl1, rl3, tk3, tk1, ex3n, ex1n, ex3, ex1, ex1', ex3', decide_eq_true_eq, dec0, enc0, gr0, w2, tk3n, dr3n, List.length_append, List.take_left, List.drop_left, List.nil_append, List.append_nil, List.take_length, List.drop_length, List.take_zero, List.drop_zero, Nat.zero_mul, Nat.add_sub_cancel_left, Int.toNat_natCast, Int.toNat_zero, Option.map_none, Option.getD_none, beq_self_eq_true, decide_true, Int.natCast_add, Nat.sub_self, Nat.sub_zero]
  repeat' (first | with_reducible apply And.intro | intro _)
  all_goals first
    | omega
    | exact hR _
    | trivial
    | exact l2_ok (by simp only [List.length_nil]; omega) (by simp only [List.length_nil]; omega)
    | exact l2_ok (by omega) (by simp only [List.length_nil]; omega)
    | exact l2_ok (by simp only [List.length_nil]; omega) (by omega)
    | exact l2_ok (by omega) (by omega)
set_option maxRecDepth 100000 in
theorem pdnn01 {bs zs : List UInt8} (hz : bs.take zs.length = zs) (capb : Nat) (hcb : zs.length ≤ capb) (R : AV → Hp → Prop) (hR : ∀ h, R (.bo true) h) :
    Holds (wpL P TLs noW noL 1 (tlC 15 (tlC 12 (tlC 8 b5))) (u15nn_01 zs.length capb (recs mkB bs)) (finQ P Go.Proofs.Try.f5 R)) := by
  refine ⟨?_⟩
  have hleb := win1_len hz
  refine Eq.mpr (dnn01 _ _ _ _ _ _ _ _ _ _ _ _) ?_
  simp only [↓br_ite, ↓reduceIte, holds_eq, List.getElem?_cons_zero, List.getElem?_cons_succ, Option.some.injEq, AV.i.injEq, AV.s.injEq, AV.bo.injEq, true_and, and_true, List.cons.injEq, List.length_cons, List.length_nil, and_assoc, exists_and_left, exists_eq_left', exists_eq_left, br_true, br_false, Nat.zero_add, Nat.add_zero, Nat.reduceAdd, Nat.reduceLeDiff, Nat.le_refl, numsOf_one, beq_self_eq_true, Int.reduceLE, Int.reduceLT, Int.reduceAdd, Int.reduceSub, Int.reduceMul, Int.reduceNeg, Int.reduceToNat, Int.reducePow, Int.reduceMod, Int.reduceDiv, Int.cast_ofNat_Int, Int.reduceBEq, i64w, decide_true, decide_false, Int.le_refl, Nat.min_def, reduceIte, Int.one_mul, bits64, Int.natCast_add, Bool.false_eq_true, wk_and, list_beq, Option.getD_some, Option.getD_none, Nat.mul_one, List.drop_zero, rl1, rl3, tk3, tk1, ex3n, ex1n, ex3, ex1, ex1', ex3', decide_eq_true_eq, dec0, enc0, gr0, win1 hz, tk3n, dr3n, List.length_append, List.take_left, List.drop_left, List.nil_append, List.append_nil, List.take_length, List.drop_length, List.take_zero, List.drop_zero, Nat.zero_mul, Nat.add_sub_cancel_left, Int.toNat_natCast, Int.toNat_zero, Option.map_none, Option.getD_none, beq_self_eq_true, decide_true, Int.natCast_add, Nat.sub_self, Nat.sub_zero]
  repeat' (first | with_reducible apply And.intro | intro _)
  all_goals first
    | omega
    | exact hR _
    | trivial
    | exact l2_ok (by simp only [List.length_nil]; omega) (by simp only [List.length_nil]; omega)
    | exact l2_ok (by omega) (by simp only [List.length_nil]; omega)
    | exact l2_ok (by simp only [List.length_nil]; omega) (by omega)
    | exact l2_ok (by omega) (by omega)
set_option maxRecDepth 100000 in
theorem pdns01 {bs zs : List UInt8} (hz : bs.take zs.length = zs) (capb : Nat) (hcb : zs.length ≤ capb) (hne : (([] : List Ev) ++ []) ≠ []) (R : AV → Hp → Prop) (hR : ∀ h, R (.bo true) h) :
    Holds (wpL P TLs noW noL 1 (tlC 15 (tlC 12 (tlC 8 b5))) (u15ns_01 zs.length capb (recs mkB bs) (([] : List Ev) ++ [])) (finQ P Go.Proofs.Try.f5 R)) := by
  refine ⟨?_⟩
  exact absurd rfl hne
set_option maxRecDepth 100000 in
theorem pdsn01 {bs zs : List UInt8} (hz : bs.take zs.length = zs) (capb : Nat) (hcb : zs.length ≤ capb) (m : List Ev) (hm1 : m.length ≤ 4096) (hm0 : m = []) (R : AV → Hp → Prop) (hR : ∀ h, R (.bo true) h) :
    Holds (wpL P TLs noW noL 1 (tlC 15 (tlC 12 (tlC 8 b5))) (u15sn_01 zs.length capb (recs mkB bs) m) (finQ P Go.Proofs.Try.f5 R)) := by
  refine ⟨?_⟩
  have hleb := win1_len hz
  refine Eq.mpr (dsn01 _ _ _ _ _ _ _ _ _ _ _ _ _) ?_
  subst hm0
  simp only [↓br_ite, ↓reduceIte, holds_eq, List.getElem?_cons_zero, List.getElem?_cons_succ, Option.some.injEq, AV.i.injEq, AV.s.injEq, AV.bo.injEq, true_and, and_true, List.cons.injEq, List.length_cons, List.length_nil, and_assoc, exists_and_left, exists_eq_left', exists_eq_left, br_true, br_false, Nat.zero_add, Nat.add_zero, Nat.reduceAdd, Nat.reduceLeDiff, Nat.le_refl, numsOf_one, beq_self_eq_true, Int.reduceLE, Int.reduceLT, Int.reduceAdd, Int.reduceSub, Int.reduceMul, Int.reduceNeg, Int.reduceToNat, Int.reducePow, Int.reduceMod, Int.reduceDiv, Int.cast_ofNat_Int, Int.reduceBEq, i64w, decide_true, decide_false, Int.le_refl, Nat.min_def, reduceIte, Int.one_mul, bits64, Int.natCast_add, Bool.false_eq_true, wk_and, list_beq, Option.getD_some, Option.getD_none, Nat.mul_one, List.drop_zero, rl1, rl3, tk3, tk1, ex3n, ex1n, ex3, ex1, ex1', ex3', decide_eq_true_eq, dec0, enc0, gr0, win1 hz, tk3n, dr3n, List.length_append, List.take_left, List.drop_left, List.nil_append, List.append_nil, List.take_length, List.drop_length, List.take_zero, List.drop_zero, Nat.zero_mul, Nat.add_sub_cancel_left, Int.toNat_natCast, Int.toNat_zero, Option.map_none, Option.getD_none, beq_self_eq_true, decide_true, Int.natCast_add, Nat.sub_self, Nat.sub_zero]
  repeat' (first | with_reducible apply And.intro | intro _)
  all_goals first
    | omega
    | exact hR _
    | trivial
    | exact l2_ok (by simp only [List.length_nil]; omega) (by simp only [List.length_nil]; omega)
    | exact l2_ok (by omega) (by simp only [List.length_nil]; omega)
    | exact l2_ok (by simp only [List.length_nil]; omega) (by omega)
    | exact l2_ok (by omega) (by omega)
set_option maxRecDepth 100000 in
theorem pdss01 {bs zs : List UInt8} (hz : bs.take zs.length = zs) (capb : Nat) (hcb : zs.length ≤ capb) (m : List Ev) (hm1 : m.length ≤ 4096) (hne : (([] : List Ev) ++ m) ≠ []) (R : AV → Hp → Prop) (hR : ∀ h, R (.bo true) h) :
    Holds (wpL P TLs noW noL 1 (tlC 15 (tlC 12 (tlC 8 b5))) (u15ss_01 zs.length capb (recs mkB bs) m (([] : List Ev) ++ m)) (finQ P Go.Proofs.Try.f5 R)) := by
  refine ⟨?_⟩
  have hleb := win1_len hz
  refine Eq.mpr (dss01 _ _ _ _ _ _ _ _ _ _ _ _ _ _) ?_
  have w2 : IntKind.wrap .i64 (0 + (m.length : Int)) = (m.length : Int) := by rw [i64w (by omega) (by omega)] <;> omega
  simp only [↓br_ite, ↓reduceIte, holds_eq, List.getElem?_cons_zero, List.getElem?_cons_succ, Option.some.injEq, AV.i.injEq, AV.s.injEq, AV.bo.injEq, true_and, and_true, List.cons.injEq, List.length_cons, List.length_nil, and_assoc, exists_and_left, exists_eq_left', exists_eq_left, br_true, br_false, Nat.zero_add, Nat.add_zero, Nat.reduceAdd, Nat.reduceLeDiff, Nat.le_refl, numsOf_one, beq_self_eq_true, Int.reduceLE, Int.reduceLT, Int.reduceAdd, Int.reduceSub, Int.reduceMul, Int.reduceNeg, Int.reduceToNat, Int.reducePow, Int.reduceMod, Int.reduceDiv, Int.cast_ofNat_Int, Int.reduceBEq, i64w, decide_true, decide_false, Int.le_refl, Nat.min_def, reduceIte, Int.one_mul, bits64, Int.natCast_add, Bool.false_eq_true, wk_and, list_beq, Option.getD_some, Option.getD_none, Nat.mul_one, List.drop_zero, rl1, rl3, tk3, tk1, ex3n, ex1n, ex3, ex1, ex1', ex3', decide_eq_true_eq, dec0, enc0, gr0, win1 hz, w2, tk3n, dr3n, List.length_append, List.take_left, List.drop_left, List.nil_append, List.append_nil, List.take_length, List.drop_length, List.take_zero, List.drop_zero, Nat.zero_mul, Nat.add_sub_cancel_left, Int.toNat_natCast, Int.toNat_zero, Option.map_none, Option.getD_none, beq_self_eq_true, decide_true, Int.natCast_add, Nat.sub_self, Nat.sub_zero]
  repeat' (first | with_reducible apply And.intro | intro _)
  all_goals first
    | omega
    | exact hR _
    | trivial
    | exact l2_ok (by simp only [List.length_nil]; omega) (by simp only [List.length_nil]; omega)
    | exact l2_ok (by omega) (by simp only [List.length_nil]; omega)
    | exact l2_ok (by simp only [List.length_nil]; omega) (by omega)
    | exact l2_ok (by omega) (by omega)
set_option maxRecDepth 100000 in
theorem pdnn10 {xs ys : List Ev} (hx : xs.take ys.length = ys) (capl : Nat) (hcl : ys.length ≤ capl) (hm : xs.length ≤ maxLen) (hy5 : ys.length ≤ 5000) (hy0 : ys = []) (R : AV → Hp → Prop) (hR : ∀ h, R (.bo true) h) :
    Holds (wpL P TLs noW noL 1 (tlC 15 (tlC 12 (tlC 8 b5))) (u15nn_10 ys.length capl (recs mkEv xs)) (finQ P Go.Proofs.Try.f5 R)) := by
  refine ⟨?_⟩
  have hle := win_len hx
  have hle3 : ys.length * 3 ≤ xs.length * 3 := by omega
  refine Eq.mpr (dnn10 _ _ _ _ _ _ _ _ _ _ _ _) ?_
  subst hy0
  simp only [↓br_ite, ↓reduceIte, holds_eq, List.getElem?_cons_zero, List.getElem?_cons_succ, Option.some.injEq, AV.i.injEq, AV.s.injEq, AV.bo.injEq, true_and, and_true, List.cons.injEq, List.length_cons, List.length_nil, and_assoc, exists_and_left, exists_eq_left', exists_eq_left, br_true, br_false, Nat.zero_add, Nat.add_zero, Nat.reduceAdd, Nat.reduceLeDiff, Nat.le_refl, numsOf_one, beq_self_eq_true, Int.reduceLE, Int.reduceLT, Int.reduceAdd, Int.reduceSub, Int.reduceMul, Int.reduceNeg, Int.reduceToNat, Int.reducePow, Int.reduceMod, Int.reduceDiv, Int.cast_ofNat_Int, Int.reduceBEq, i64w, decide_true, decide_false, Int.le_refl, Nat.min_def, reduceIte, Int.one_mul, bits64, Int.natCast_add, Bool.false_eq_true, wk_and, list_beq, Option.getD_some, Option.getD_none, Nat.mul_one, List.drop_zero, rl1, rl3, tk3, tk1, ex3n, ex1n, ex3, ex1, ex1', ex3', decide_eq_true_eq, dec0, enc0, gr0, win3 hx, tk3n, dr3n, List.length_append, List.take_left, List.drop_left, List.nil_append, List.append_nil, List.take_length, List.drop_length, List.take_zero, List.drop_zero, Nat.zero_mul, Nat.add_sub_cancel_left, Int.toNat_natCast, Int.toNat_zero, Option.map_none, Option.getD_none, beq_self_eq_true, decide_true, Int.natCast_add, Nat.sub_self, Nat.sub_zero]
  repeat' (first | with_reducible apply And.intro | intro _)
  all_goals first
    | omega
    | exact hR _
    | trivial
    | exact l2_ok (by simp only [List.length_nil]; omega) (by simp only [List.length_nil]; omega)
    | exact l2_ok (by omega) (by simp only [List.length_nil]; omega)
    | exact l2_ok (by simp only [List.length_nil]; omega) (by omega)
    | exact l2_ok (by omega) (by omega)
set_option maxRecDepth 100000 in
theorem pdns10 {xs ys : List Ev} (hx : xs.take ys.length = ys) (capl : Nat) (hcl : ys.length ≤ capl) (hm : xs.length ≤ maxLen) (hy5 : ys.length ≤ 5000) (hne : ((ys : List Ev) ++ []) ≠ []) (R : AV → Hp → Prop) (hR : ∀ h, R (.bo true) h) :
    Holds (wpL P TLs noW noL 1 (tlC 15 (tlC 12 (tlC 8 b5))) (u15ns_10 ys.length capl (recs mkEv xs) ((ys : List Ev) ++ [])) (finQ P Go.Proofs.Try.f5 R)) := by
  refine ⟨?_⟩
  have hle := win_len hx
  have hle3 : ys.length * 3 ≤ xs.length * 3 := by omega
  refine Eq.mpr (dns10 _ _ _ _ _ _ _ _ _ _ _ _ _) ?_
  have w2 : IntKind.wrap .i64 ((ys.length : Int) + 0) = (ys.length : Int) := by rw [i64w (by omega) (by omega)] <;> omega
  simp only [↓br_ite, ↓reduceIte, holds_eq, List.getElem?_cons_zero, List.getElem?_cons_succ, Option.some.injEq, AV.i.injEq, AV.s.injEq, AV.bo.injEq, true_and, and_true, List.cons.injEq, List.length_cons, List.length_nil, and_assoc, exists_and_left, exists_eq_left', exists_eq_left, br_true, br_false, Nat.zero_add, Nat.add_zero, Nat.reduceAdd, Nat.reduceLeDiff, Nat.le_refl, numsOf_one, beq_self_eq_true, Int.reduceLE, Int.reduceLT, Int.reduceAdd, Int.reduceSub, Int.reduceMul, Int.reduceNeg, Int.reduceToNat, Int.reducePow, Int.reduceMod, Int.reduceDiv, Int.cast_ofNat_Int, Int.reduceBEq, i64w, decide_true, decide_false, Int.le_refl, Nat.min_def, reduceIte, Int.one_mul, bits64, Int.natCast_add, Bool.false_eq_true, wk_and, list_beq, Option.getD_some, Option.getD_none, Nat.mul_one, List.drop_zero, rl1, rl3, tk3, tk1, ex3n, ex1n, ex3, ex1, ex1', ex3', decide_eq_true_eq, dec0, enc0, gr0, win3 hx, w2, tk3n, dr3n, List.length_append, List.take_left, List.drop_left, List.nil_append, List.append_nil, List.take_length, List.drop_length, List.take_zero, List.drop_zero, Nat.zero_mul, Nat.add_sub_cancel_left, Int.toNat_natCast, Int.toNat_zero, Option.map_none, Option.getD_none, beq_self_eq_true, decide_true, Int.natCast_add, Nat.sub_self, Nat.sub_zero]
  repeat' (first | with_reducible apply And.intro | intro _)
  all_goals first
    | omega
    | exact hR _
    | trivial
    | exact l2_ok (by simp only [List.length_nil]; omega) (by simp only [List.length_nil]; omega)
    | exact l2_ok (by omega) (by simp only [List.length_nil]; omega)
    | exact l2_ok (by simp only [List.length_nil]; omega) (by omega)
    | exact l2_ok (by omega) (by omega)
set_option maxRecDepth 100000 in
theorem pdsn10 {xs ys : List Ev} (hx : xs.take ys.length = ys) (capl : Nat) (hcl : ys.length ≤ capl) (hm : xs.length ≤ maxLen) (m : List Ev) (hm1 : m.length ≤ 4096) (hy5 : ys.length ≤ 5000) (hy0 : ys = []) (hm0 : m = []) (R : AV → Hp → Prop) (hR : ∀ h, R (.bo true) h) :
    Holds (wpL P TLs noW noL 1 (tlC 15 (tlC 12 (tlC 8 b5))) (u15sn_10 ys.length capl (recs mkEv xs) m) (finQ P Go.Proofs.Try.f5 R)) := by
  refine ⟨?_⟩
  have hle := win_len hx
  have hle3 : ys.length * 3 ≤ xs.length * 3 := by omega
  refine Eq.mpr (dsn10 _ _ _ _ _ _ _ _ _ _ _ _ _) ?_
  subst hm0
  subst hy0
  simp only [↓br_ite, ↓reduceIte, holds_eq, List.getElem?_cons_zero, List.getElem?_cons_succ, Option.some.injEq, AV.i.injEq, AV.s.injEq, AV.bo.injEq, true_and, and_true, List.cons.injEq, List.length_cons, List.length_nil, and_assoc, exists_and_left, exists_eq_left', exists_eq_left, br_true, br_false, Nat.zero_add, Nat.add_zero, Nat.reduceAdd, Nat.reduceLeDiff, Nat.le_refl, numsOf_one, beq_self_eq_true, Int.reduceLE, Int.reduceLT, Int.reduceAdd, Int.reduceSub, Int.reduceMul, Int.reduceNeg, Int.reduceToNat, Int.reducePow, Int.reduceMod, Int.reduceDiv, Int.cast_ofNat_Int, Int.reduceBEq, i64w, decide_true, decide_false, Int.le_refl, Nat.min_def, reduceIte, Int.one_mul, bits64, Int.natCast_add, Bool.false_eq_true, wk_and, list_beq, Option.getD_some, Option.getD_none, Nat.mul_one, List.drop_zero, rl1, rl3, tk3, tk1, ex3n, ex1n, ex3, ex1, ex1', ex3', decide_eq_true_eq, dec0, enc0, gr0, win3 hx, tk3n, dr3n, List.length_append, List.take_left, List.drop_left, List.nil_append, List.append_nil, List.take_length, List.drop_length, List.take_zero, List.drop_zero, Nat.zero_mul, Nat.add_sub_cancel_left, Int.toNat_natCast, Int.toNat_zero, Option.map_none, Option.getD_none, beq_self_eq_true, decide_true, Int.natCast_add, Nat.sub_self, Nat.sub_zero]
  repeat' (first | with_reducible apply And.intro | intro _)
  all_goals first
    | omega
    | exact hR _
    | trivial
    | exact l2_ok (by simp only [List.length_nil]; omega) (by simp only [List.length_nil]; omega)
    | exact l2_ok (by omega) (by simp only [List.length_nil]; omega)
    | exact l2_ok (by simp only [List.length_nil]; omega) (by omega)
    | exact l2_ok (by omega) (by omega)
set_option maxRecDepth 100000 in
theorem pdss10 {xs ys : List Ev} (hx : xs.take ys.length = ys) (capl : Nat) (hcl : ys.length ≤ capl) (hm : xs.length ≤ maxLen) (m : List Ev) (hm1 : m.length ≤ 4096) (hy5 : ys.length ≤ 5000) (hne : ((ys : List Ev) ++ m) ≠ []) (R : AV → Hp → Prop) (hR : ∀ h, R (.bo true) h) :
    Holds (wpL P TLs noW noL 1 (tlC 15 (tlC 12 (tlC 8 b5))) (u15ss_10 ys.length capl (recs mkEv xs) m ((ys : List Ev) ++ m)) (finQ P Go.Proofs.Try.f5 R)) := by
  refine ⟨?_⟩
  have hle := win_len hx
  have hle3 : ys.length * 3 ≤ xs.length * 3 := by omega
  refine Eq.mpr (dss10 _ _ _ _ _ _ _ _ _ _ _ _ _ _) ?_
  have w2 : IntKind.wrap .i64 ((ys.length : Int) + (m.length : Int)) = (ys.length : Int) + (m.length : Int) := by rw [i64w (by omega) (by omega)] <;> omega
  simp only [↓br_ite, ↓reduceIte, holds_eq, List.getElem?_cons_zero, List.getElem?_cons_succ, Option.some.injEq, AV.i.injEq, AV.s.injEq, AV.bo.injEq, true_and, and_true, List.cons.injEq, List.length_cons, List.length_nil, and_assoc, exists_and_left, exists_eq_left', exists_eq_left, br_true, br_false, Nat.zero_add, Nat.add_zero, Nat.reduceAdd, Nat.reduceLeDiff, Nat.le_refl, numsOf_one, beq_self_eq_true, Int.reduceLE, Int.reduceLT, Int.reduceAdd, Int.reduceSub, Int.reduceMul, Int.reduceNeg, Int.reduceToNat, Int.reducePow, Int.reduceMod, Int.reduceDiv, Int.cast_ofNat_Int, Int.reduceBEq, i64w, decide_true, decide_false, Int.le_refl, Nat.min_def, reduceIte, Int.one_mul, bits64, Int.natCast_add, Bool.false_eq_true, wk_and, list_beq, Option.getD_some, Option.getD_none, Nat.mul_one, List.drop_zero, rl1, rl3, tk3, tk1, ex3n, ex1n, ex3, ex1, ex1', ex3', decide_eq_true_eq, dec0, enc0, gr0, win3 hx, w2, tk3n, dr3n, List.length_append, List.take_left, List.drop_left, List.nil_append, List.append_nil, List.take_length, List.drop_length, List.take_zero, List.drop_zero, Nat.zero_mul, Nat.add_sub_cancel_left, Int.toNat_natCast, Int.toNat_zero, Option.map_none, Option.getD_none, beq_self_eq_true, decide_true, Int.natCast_add, Nat.sub_self, Nat.sub_zero]
  repeat' (first | with_reducible apply And.intro | intro _)
  all_goals first
    | omega
    | exact hR _
    | trivial
    | exact l2_ok (by simp only [List.length_nil]; omega) (by simp only [List.length_nil]; omega)
    | exact l2_ok (by omega) (by simp only [List.length_nil]; omega)
    | exact l2_ok (by simp only [List.length_nil]; omega) (by omega)
    | exact l2_ok (by omega) (by omega)
set_option maxRecDepth 100000 in
theorem pdnn11 {xs ys : List Ev} (hx : xs.take ys.length = ys) (capl : Nat) (hcl : ys.length ≤ capl) (hm : xs.length ≤ maxLen) {bs zs : List UInt8} (hz : bs.take zs.length = zs) (capb : Nat) (hcb : zs.length ≤ capb) (hy5 : ys.length ≤ 5000) (hy0 : ys = []) (R : AV → Hp → Prop) (hR : ∀ h, R (.bo true) h) :
    Holds (wpL P TLs noW noL 2 (tlC 15 (tlC 12 (tlC 8 b5))) (u15nn_11 ys.length capl (recs mkEv xs) zs.length capb (recs mkB bs)) (finQ P Go.Proofs.Try.f5 R)) := by
  refine ⟨?_⟩
  have hle := win_len hx
  have hle3 : ys.length * 3 ≤ xs.length * 3 := by omega
  have hleb := win1_len hz
  refine Eq.mpr (dnn11 _ _ _ _ _ _ _ _ _ _ _ _ _ _ _) ?_
  subst hy0
  simp only [↓br_ite, ↓reduceIte, holds_eq, List.getElem?_cons_zero, List.getElem?_cons_succ, Option.some.injEq, AV.i.injEq, AV.s.injEq, AV.bo.injEq, true_and, and_true, List.cons.injEq, List.length_cons, List.length_nil, and_assoc, exists_and_left, exists_eq_left', exists_eq_left, br_true, br_false, Nat.zero_add, Nat.add_zero, Nat.reduceAdd, Nat.reduceLeDiff, Nat.le_refl, numsOf_one, beq_self_eq_true, Int.reduceLE, Int.reduceLT, Int.reduceAdd, Int.reduceSub, Int.reduceMul, Int.reduceNeg, Int.reduceToNat, Int.reducePow, Int.reduceMod, Int.reduceDiv, Int.cast_ofNat_Int, Int.reduceBEq, i64w, decide_true, decide_false, Int.le_refl, Nat.min_def, reduceIte, Int.one_mul, bits64, Int.natCast_add, Bool.false_eq_true, wk_and, list_beq, Option.getD_some, Option.getD_none, Nat.mul_one, List.drop_zero, rl1, rl3, tk3, tk1, ex3n, ex1n, ex3, ex1, ex1', ex3', decide_eq_true_eq, dec0, enc0, gr0, win3 hx, win1 hz, tk3n, dr3n, List.length_append, List.take_left, List.drop_left, List.nil_append, List.append_nil, List.take_length, List.drop_length, List.take_zero, List.drop_zero, Nat.zero_mul, Nat.add_sub_cancel_left, Int.toNat_natCast, Int.toNat_zero, Option.map_none, Option.getD_none, beq_self_eq_true, decide_true, Int.natCast_add, Nat.sub_self, Nat.sub_zero]
  repeat' (first | with_reducible apply And.intro | intro _)
  all_goals first
    | omega
    | exact hR _
    | trivial
    | exact l2_ok (by simp only [List.length_nil]; omega) (by simp only [List.length_nil]; omega)
    | exact l2_ok (by omega) (by simp only [List.length_nil]; omega)
    | exact l2_ok (by simp only [List.length_nil]; omega) (by omega)
    | exact l2_ok (by omega) (by omega)
set_option maxRecDepth 100000 in
theorem pdns11 {xs ys : List Ev} (hx : xs.take ys.length = ys) (capl : Nat) (hcl : ys.length ≤ capl) (hm : xs.length ≤ maxLen) {bs zs : List UInt8} (hz : bs.take zs.length = zs) (capb : Nat) (hcb : zs.length ≤ capb) (hy5 : ys.length ≤ 5000) (hne : ((ys : List Ev) ++ []) ≠ []) (R : AV → Hp → Prop) (hR : ∀ h, R (.bo true) h) :
    Holds (wpL P TLs noW noL 2 (tlC 15 (tlC 12 (tlC 8 b5))) (u15ns_11 ys.length capl (recs mkEv xs) zs.length capb (recs mkB bs) ((ys : List Ev) ++ [])) (finQ P Go.Proofs.Try.f5 R)) := by
  refine ⟨?_⟩
  have hle := win_len hx
  have hle3 : ys.length * 3 ≤ xs.length * 3 := by omega
  have hleb := win1_len hz
  refine Eq.mpr (dns11 _ _ _ _ _ _ _ _ _ _ _ _ _ _ _ _) ?_
  have w2 : IntKind.wrap .i64 ((ys.length : Int) + 0) = (ys.length : Int) := by rw [i64w (by omega) (by omega)] <;> omega
  simp only [↓br_ite, ↓reduceIte, holds_eq, List.getElem?_cons_zero, List.getElem?_cons_succ, Option.some.injEq, AV.i.injEq, AV.s.injEq, AV.bo.injEq, true_and, and_true, List.cons.injEq, List.length_cons, List.length_nil, and_assoc, exists_and_left, exists_eq_left', exists_eq_left, br_true, br_false, Nat.zero_add, Nat.add_zero, Nat.reduceAdd, Nat.reduceLeDiff, Nat.le_refl, numsOf_one, beq_self_eq_true, Int.reduceLE, Int.reduceLT, Int.reduceAdd, Int.reduceSub, Int.reduceMul, Int.reduceNeg, Int.reduceToNat, Int.reducePow, Int.reduceMod, Int.reduceDiv, Int.cast_ofNat_Int, Int.reduceBEq, i64w, decide_true, decide_false, Int.le_refl, Nat.min_def, reduceIte, Int.one_mul, bits64, Int.natCast_add, Bool.false_eq_true, wk_and, list_beq, Option.getD_some, Option.getD_none, Nat.mul_one, List.drop_zero, rl1, rl3, tk3, tk1, ex3n, ex1n, ex3, ex1, ex1', ex3', decide_eq_true_eq, dec0, enc0, gr0, win3 hx, win1 hz, w2, tk3n, dr3n, List.length_append, List.take_left, List.drop_left, List.nil_append, List.append_nil, List.take_length, List.drop_length, List.take_zero, List.drop_zero, Nat.zero_mul, Nat.add_sub_cancel_left, Int.toNat_natCast, Int.toNat_zero, Option.map_none, Option.getD_none, beq_self_eq_true, decide_true, Int.natCast_add, Nat.sub_self, Nat.sub_zero]
  repeat' (first | with_reducible apply And.intro | intro _)
  all_goals first
    | omega
    | exact hR _
    | trivial
    | exact l2_ok (by simp only [List.length_nil]; omega) (by simp only [List.length_nil]; omega)
    | exact l2_ok (by omega) (by simp only [List.length_nil]; omega)
    | exact l2_ok (by simp only [List.length_nil]; omega) (by omega)
    | exact l2_ok (by omega) (by omega)
set_option maxRecDepth 100000 in
theorem pdsn11 {xs ys : List Ev} (hx : xs.take ys.length = ys) (capl : Nat) (hcl : ys.length ≤ capl) (hm : xs.length ≤ maxLen) {bs zs : List UInt8} (hz : bs.take zs.length = zs) (capb : Nat) (hcb : zs.length ≤ capb) (m : List Ev) (hm1 : m.length ≤ 4096) (hy5 : ys.length ≤ 5000) (hy0 : ys = []) (hm0 : m = []) (R : AV → Hp → Prop) (hR : ∀ h, R (.bo true) h) :
    Holds (wpL P TLs noW noL 2 (tlC 15 (tlC 12 (tlC 8 b5))) (u15sn_11 ys.length capl (recs mkEv xs) zs.length capb (recs mkB bs) m) (finQ P Go.Proofs.Try.f5 R)) := by
  refine ⟨?_⟩
  have hle := win_len hx
  have hle3 : ys.length * 3 ≤ xs.length * 3 := by omega
  have hleb := win1_len hz
  refine Eq.mpr (dsn11 _ _ _ _ _ _ _ _ _ _ _ _ _ _ _ _) ?_
  subst hm0
  subst hy0
  simp only [↓br_ite, ↓reduceIte, holds_eq, List.getElem?_cons_zero, List.getElem?_cons_succ, Option.some.injEq, AV.i.injEq, AV.s.injEq, AV.bo.injEq, true_and, and_true, List.cons.injEq, List.length_cons, List.length_nil, and_assoc, exists_and_left, exists_eq_left', exists_eq_left, br_true, br_false, Nat.zero_add, Nat.add_zero, Nat.reduceAdd, Nat.reduceLeDiff, Nat.le_refl, numsOf_one, beq_self_eq_true, Int.reduceLE, Int.reduceLT, Int.reduceAdd, Int.reduceSub, Int.reduceMul, Int.reduceNeg, Int.reduceToNat, Int.reducePow, Int.reduceMod, Int.reduceDiv, Int.cast_ofNat_Int, Int.reduceBEq, i64w, decide_true, decide_false, Int.le_refl, Nat.min_def, reduceIte, Int.one_mul, bits64, Int.natCast_add, Bool.false_eq_true, wk_and, list_beq, Option.getD_some, Option.getD_none, Nat.mul_one, List.drop_zero, rl1, rl3, tk3, tk1, ex3n, ex1n, ex3, ex1, ex1', ex3', decide_eq_true_eq, dec0, enc0, gr0, win3 hx, win1 hz, tk3n, dr3n, List.length_append, List.take_left, List.drop_left, List.nil_append, List.append_nil, List.take_length, List.drop_length, List.take_zero, List.drop_zero, Nat.zero_mul, Nat.add_sub_cancel_left, Int.toNat_natCast, Int.toNat_zero, Option.map_none, Option.getD_none, beq_self_eq_true, decide_true, Int.natCast_add, Nat.sub_self, Nat.sub_zero]
  repeat' (first | with_reducible apply And.intro | intro _)
  all_goals first
    | omega
    | exact hR _
    | trivial
    | exact l2_ok (by simp only [List.length_nil]; omega) (by simp only [List.length_nil]; omega)
    | exact l2_ok (by omega) (by simp only [List.length_nil]; omega)
    | exact l2_ok (by simp only [List.length_nil]; omega) (by omega)
    | exact l2_ok (by omega) (by omega)
set_option maxRecDepth 100000 in
theorem pdss11 {xs ys : List Ev} (hx : xs.take ys.length = ys) (capl : Nat) (hcl : ys.length ≤ capl) (hm : xs.length ≤ maxLen) {bs zs : List UInt8} (hz : bs.take zs.length = zs) (capb : Nat) (hcb : zs.length ≤ capb) (m : List Ev) (hm1 : m.length ≤ 4096) (hy5 : ys.length ≤ 5000) (hne : ((ys : List Ev) ++ m) ≠ []) (R : AV → Hp → Prop) (hR : ∀ h, R (.bo true) h) :
    Holds (wpL P TLs noW noL 2 (tlC 15 (tlC 12 (tlC 8 b5))) (u15ss_11 ys.length capl (recs mkEv xs) zs.length capb (recs mkB bs) m ((ys : List Ev) ++ m)) (finQ P Go.Proofs.Try.f5 R)) := by
  refine ⟨?_⟩
  have hle := win_len hx
  have hle3 : ys.length * 3 ≤ xs.length * 3 := by omega
  have hleb := win1_len hz
  refine Eq.mpr (dss11 _ _ _ _ _ _ _ _ _ _ _ _ _ _ _ _ _) ?_
  have w2 : IntKind.wrap .i64 ((ys.length : Int) + (m.length : Int)) = (ys.length : Int) + (m.length : Int) := by rw [i64w (by omega) (by omega)] <;> omega
  simp only [↓br_ite, ↓reduceIte, holds_eq, List.getElem?_cons_zero, List.getElem?_cons_succ, Option.some.injEq, AV.i.injEq, AV.s.injEq, AV.bo.injEq, true_and, and_true, List.cons.injEq, List.length_cons, List.length_nil, and_assoc, exists_and_left, exists_eq_left', exists_eq_left, br_true, br_false, Nat.zero_add, Nat.add_zero, Nat.reduceAdd, Nat.reduceLeDiff, Nat.le_refl, numsOf_one, beq_self_eq_true, Int.reduceLE, Int.reduceLT, Int.reduceAdd, Int.reduceSub, Int.reduceMul, Int.reduceNeg, Int.reduceToNat, Int.reducePow, Int.reduceMod, Int.reduceDiv, Int.cast_ofNat_Int, Int.reduceBEq, i64w, decide_true, decide_false, Int.le_refl, Nat.min_def, reduceIte, Int.one_mul, bits64, Int.natCast_add, Bool.false_eq_true, wk_and, list_beq, Option.getD_some, Option.getD_none, Nat.mul_one, List.drop_zero, rl1, rl3, tk3, tk1, ex3n, ex1n, ex3, ex1, ex1', ex3', decide_eq_true_eq, dec0, enc0, gr0, win3 hx, win1 hz, w2, tk3n, dr3n, List.length_append, List.take_left, List.drop_left, List.nil_append, List.append_nil, List.take_length, List.drop_length, List.take_zero, List.drop_zero, Nat.zero_mul, Nat.add_sub_cancel_left, Int.toNat_natCast, Int.toNat_zero, Option.map_none, Option.getD_none, beq_self_eq_true, decide_true, Int.natCast_add, Nat.sub_self, Nat.sub_zero]
  repeat' (first | with_reducible apply And.intro | intro _)
  all_goals first
    | omega
    | exact hR _
    | trivial
    | exact l2_ok (by simp only [List.length_nil]; omega) (by simp only [List.length_nil]; omega)
    | exact l2_ok (by omega) (by simp only [List.length_nil]; omega)
    | exact l2_ok (by simp only [List.length_nil]; omega) (by omega)
    | exact l2_ok (by omega) (by omega)
end Go.Proofs.Ytnfbgfmdjaodgaa.ScriptRun
