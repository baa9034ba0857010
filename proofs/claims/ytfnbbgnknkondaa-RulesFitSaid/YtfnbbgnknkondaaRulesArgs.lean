/- The laws' arguments: rules, views. -/
import Derived.Test.YtfnbbgnknkondaaRulesUtil
import Derived.Test.YtfnbbgnknkondaaEngV
import Derived.ChangeSame
set_option linter.unusedVariables false
set_option linter.unusedSimpArgs false
open Go Go.Proofs.Ytfnbbgnknkondaa.Eng Go.RowKit
namespace Go.Proofs.Ytfnbbgnknkondaa.RulesRun
section
variable {H : Type} {enc : TypeId × Value → H} {w : World}
theorem arr11 {α : Type} {cs : Array α} (h : cs.size = 11) : ∃ c0 c1 c2 c3 c4 c5 c6 c7 c8 c9 c10, cs = #[c0, c1, c2, c3, c4, c5, c6, c7, c8, c9, c10] := by
  obtain ⟨l⟩ := cs
  match l, h with
  | [c0, c1, c2, c3, c4, c5, c6, c7, c8, c9, c10], _ => exact ⟨c0, c1, c2, c3, c4, c5, c6, c7, c8, c9, c10, rfl⟩
theorem arg_rule {r : Reach} {b0 : Nat} {v : Value} {d : DataW H} {ps : List MemPlace} (hval : Value.okWide P w r b0 25 v) (hd : DataW.Trod enc P w 0 (fun _ => true) true 25 v d ps) :
    ∃ (sd : Int) (pr : Int) (fs : ByteArray) (fn : Int) (ts : ByteArray) (tn : Int) (fl : Int) (fh : Int) (tl : Int) (th : Int) (pass : Bool), v = .agg #[.int .i64 sd, .int .i64 pr, .string fs, .int .i64 fn, .string ts, .int .i64 tn, .int .i64 fl, .int .i64 fh, .int .i64 tl, .int .i64 th, .bool pass] ∧ (Lit.int .i64 sd).wf = true ∧ (Lit.int .i64 pr).wf = true ∧ (Lit.int .i64 fn).wf = true ∧ (Lit.int .i64 tn).wf = true ∧ (Lit.int .i64 fl).wf = true ∧ (Lit.int .i64 fh).wf = true ∧ (Lit.int .i64 tl).wf = true ∧ (Lit.int .i64 th).wf = true := by
  obtain ⟨cs, rfl, hsz⟩ := Go.WideShapes.okWide_struct (P := P) Go.Proofs.Try.underlying25 hval
  obtain ⟨fuel, hf⟩ := hd
  obtain ⟨xs, m, _, _, hl, hlen, hi⟩ := DataW.trod_struct (P := P) Go.Proofs.Try.underlying25 hf
  have hc : P.cellsOf 25 = 11 := by kernel_rfl
  have k3 : P.cellsOf 3 = 1 := by kernel_rfl
  have k9 : P.cellsOf 9 = 1 := by kernel_rfl
  have k4 : P.cellsOf 4 = 1 := by kernel_rfl
  have k23 : P.cellsOf 23 = 2 := by kernel_rfl
  obtain ⟨c0, c1, c2, c3, c4, c5, c6, c7, c8, c9, c10, rfl⟩ := arr11 (hsz.trans hc)
  match xs, hlen with
  | [y0, y1, y2, y3, y4, y5, y6, y7, y8], _ =>
    have h0 : DataW.trod enc P w 0 (fun _ => true) true m 3 [c0] = some y0 := by
      have := hi 0 _ rfl
      simpa [Value.cells, k3, k9, k4] using this
    obtain ⟨sd, e0, _, w0⟩ := DataW.trod_int (P := P) Go.Proofs.Try.underlying3 h0
    simp only [List.cons.injEq, and_true] at e0
    subst e0
    have h1 : DataW.trod enc P w 0 (fun _ => true) true m 3 [c1] = some y1 := by
      have := hi 1 _ rfl
      simpa [Value.cells, k3, k9, k4] using this
    obtain ⟨pr, e1, _, w1⟩ := DataW.trod_int (P := P) Go.Proofs.Try.underlying3 h1
    simp only [List.cons.injEq, and_true] at e1
    subst e1
    have h2 : DataW.trod enc P w 0 (fun _ => true) true m 23 [c2, c3] = some y2 := by
      have := hi 2 _ rfl
      simpa [Value.cells, k23] using this
    obtain ⟨z0, z1, m2, _, _, g0, g1⟩ := Go.ChangeShapes.trod_struct2 (P := P) Go.Proofs.Try.underlying23 h2
    have g0' : DataW.trod enc P w 0 (fun _ => true) true m2 9 [c2] = some z0 := by simpa [k9] using g0
    have g1' : DataW.trod enc P w 0 (fun _ => true) true m2 3 [c3] = some z1 := by simpa [k3] using g1
    obtain ⟨fs, e2, _⟩ := DataW.trod_string (P := P) Go.Proofs.Try.underlying9 g0'
    obtain ⟨fn, f2, _, w2⟩ := DataW.trod_int (P := P) Go.Proofs.Try.underlying3 g1'
    simp only [List.cons.injEq, and_true] at e2 f2
    subst e2 f2
    have h3 : DataW.trod enc P w 0 (fun _ => true) true m 23 [c4, c5] = some y3 := by
      have := hi 3 _ rfl
      simpa [Value.cells, k23] using this
    obtain ⟨z0, z1, m3, _, _, g0, g1⟩ := Go.ChangeShapes.trod_struct2 (P := P) Go.Proofs.Try.underlying23 h3
    have g0' : DataW.trod enc P w 0 (fun _ => true) true m3 9 [c4] = some z0 := by simpa [k9] using g0
    have g1' : DataW.trod enc P w 0 (fun _ => true) true m3 3 [c5] = some z1 := by simpa [k3] using g1
    obtain ⟨ts, e3, _⟩ := DataW.trod_string (P := P) Go.Proofs.Try.underlying9 g0'
    obtain ⟨tn, f3, _, w3⟩ := DataW.trod_int (P := P) Go.Proofs.Try.underlying3 g1'
    simp only [List.cons.injEq, and_true] at e3 f3
    subst e3 f3
    have h4 : DataW.trod enc P w 0 (fun _ => true) true m 3 [c6] = some y4 := by
      have := hi 4 _ rfl
      simpa [Value.cells, k3, k9, k4] using this
    obtain ⟨fl, e4, _, w4⟩ := DataW.trod_int (P := P) Go.Proofs.Try.underlying3 h4
    simp only [List.cons.injEq, and_true] at e4
    subst e4
    have h5 : DataW.trod enc P w 0 (fun _ => true) true m 3 [c7] = some y5 := by
      have := hi 5 _ rfl
      simpa [Value.cells, k3, k9, k4] using this
    obtain ⟨fh, e5, _, w5⟩ := DataW.trod_int (P := P) Go.Proofs.Try.underlying3 h5
    simp only [List.cons.injEq, and_true] at e5
    subst e5
    have h6 : DataW.trod enc P w 0 (fun _ => true) true m 3 [c8] = some y6 := by
      have := hi 6 _ rfl
      simpa [Value.cells, k3, k9, k4] using this
    obtain ⟨tl, e6, _, w6⟩ := DataW.trod_int (P := P) Go.Proofs.Try.underlying3 h6
    simp only [List.cons.injEq, and_true] at e6
    subst e6
    have h7 : DataW.trod enc P w 0 (fun _ => true) true m 3 [c9] = some y7 := by
      have := hi 7 _ rfl
      simpa [Value.cells, k3, k9, k4] using this
    obtain ⟨th, e7, _, w7⟩ := DataW.trod_int (P := P) Go.Proofs.Try.underlying3 h7
    simp only [List.cons.injEq, and_true] at e7
    subst e7
    have h8 : DataW.trod enc P w 0 (fun _ => true) true m 4 [c10] = some y8 := by
      have := hi 8 _ rfl
      simpa [Value.cells, k3, k9, k4] using this
    obtain ⟨pass, e8, _⟩ := DataW.trod_bool (P := P) Go.Proofs.Try.underlying4 h8
    simp only [List.cons.injEq, and_true] at e8
    subst e8
    exact ⟨sd, pr, fs, fn, ts, tn, fl, fh, tl, th, pass, rfl, w0, w1, w2, w3, w4, w5, w6, w7⟩
theorem arr6 {α : Type} {cs : Array α} (h : cs.size = 6) : ∃ c0 c1 c2 c3 c4 c5, cs = #[c0, c1, c2, c3, c4, c5] := by
  obtain ⟨l⟩ := cs
  match l, h with
  | [c0, c1, c2, c3, c4, c5], _ => exact ⟨c0, c1, c2, c3, c4, c5, rfl⟩
theorem arg_view {r : Reach} {b0 : Nat} {v : Value} {d : DataW H} {ps : List MemPlace} (hval : Value.okWide P w r b0 27 v) (hd : DataW.Trod enc P w 0 (fun _ => true) true 27 v d ps) :
    ∃ (sd : Int) (pr : Int) (fs : ByteArray) (ts : ByteArray) (fp : Int) (tp : Int), v = .agg #[.int .i64 sd, .int .i64 pr, .string fs, .string ts, .int .i64 fp, .int .i64 tp] ∧ (Lit.int .i64 sd).wf = true ∧ (Lit.int .i64 pr).wf = true ∧ (Lit.int .i64 fp).wf = true ∧ (Lit.int .i64 tp).wf = true := by
  obtain ⟨cs, rfl, hsz⟩ := Go.WideShapes.okWide_struct (P := P) Go.Proofs.Try.underlying27 hval
  obtain ⟨fuel, hf⟩ := hd
  obtain ⟨xs, m, _, _, hl, hlen, hi⟩ := DataW.trod_struct (P := P) Go.Proofs.Try.underlying27 hf
  have hc : P.cellsOf 27 = 6 := by kernel_rfl
  have k3 : P.cellsOf 3 = 1 := by kernel_rfl
  have k9 : P.cellsOf 9 = 1 := by kernel_rfl
  have k4 : P.cellsOf 4 = 1 := by kernel_rfl
  have k23 : P.cellsOf 23 = 2 := by kernel_rfl
  obtain ⟨c0, c1, c2, c3, c4, c5, rfl⟩ := arr6 (hsz.trans hc)
  match xs, hlen with
  | [y0, y1, y2, y3, y4, y5], _ =>
    have h0 : DataW.trod enc P w 0 (fun _ => true) true m 3 [c0] = some y0 := by
      have := hi 0 _ rfl
      simpa [Value.cells, k3, k9, k4] using this
    obtain ⟨sd, e0, _, w0⟩ := DataW.trod_int (P := P) Go.Proofs.Try.underlying3 h0
    simp only [List.cons.injEq, and_true] at e0
    subst e0
    have h1 : DataW.trod enc P w 0 (fun _ => true) true m 3 [c1] = some y1 := by
      have := hi 1 _ rfl
      simpa [Value.cells, k3, k9, k4] using this
    obtain ⟨pr, e1, _, w1⟩ := DataW.trod_int (P := P) Go.Proofs.Try.underlying3 h1
    simp only [List.cons.injEq, and_true] at e1
    subst e1
    have h2 : DataW.trod enc P w 0 (fun _ => true) true m 9 [c2] = some y2 := by
      have := hi 2 _ rfl
      simpa [Value.cells, k3, k9, k4] using this
    obtain ⟨fs, e2, _⟩ := DataW.trod_string (P := P) Go.Proofs.Try.underlying9 h2
    simp only [List.cons.injEq, and_true] at e2
    subst e2
    have h3 : DataW.trod enc P w 0 (fun _ => true) true m 9 [c3] = some y3 := by
      have := hi 3 _ rfl
      simpa [Value.cells, k3, k9, k4] using this
    obtain ⟨ts, e3, _⟩ := DataW.trod_string (P := P) Go.Proofs.Try.underlying9 h3
    simp only [List.cons.injEq, and_true] at e3
    subst e3
    have h4 : DataW.trod enc P w 0 (fun _ => true) true m 3 [c4] = some y4 := by
      have := hi 4 _ rfl
      simpa [Value.cells, k3, k9, k4] using this
    obtain ⟨fp, e4, _, w4⟩ := DataW.trod_int (P := P) Go.Proofs.Try.underlying3 h4
    simp only [List.cons.injEq, and_true] at e4
    subst e4
    have h5 : DataW.trod enc P w 0 (fun _ => true) true m 3 [c5] = some y5 := by
      have := hi 5 _ rfl
      simpa [Value.cells, k3, k9, k4] using this
    obtain ⟨tp, e5, _, w5⟩ := DataW.trod_int (P := P) Go.Proofs.Try.underlying3 h5
    simp only [List.cons.injEq, and_true] at e5
    subst e5
    exact ⟨sd, pr, fs, ts, fp, tp, rfl, w0, w1, w4, w5⟩
end
end Go.Proofs.Ytfnbbgnknkondaa.RulesRun
