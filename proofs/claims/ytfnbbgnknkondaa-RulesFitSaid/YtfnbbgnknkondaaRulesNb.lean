/- A nil list. -/
import Derived.Test.YtfnbbgnknkondaaRulesCon
import Derived.Test.YtfnbbgnknkondaaRulesArgs
set_option linter.unusedVariables false
set_option linter.unusedSimpArgs false
open Go Go.Proofs.Ytfnbbgnknkondaa.Eng Go.RowKit
namespace Go.Proofs.Ytfnbbgnknkondaa.RulesRun
def tgreat (args : List AV) (h : Hp) (K : AV → Hp → Prop) : Prop := match args with
  | [.ag [.i .i64 _, .i .i64 _, .s f, .i .i64 _, .s t, .i .i64 _, .i .i64 _, .i .i64 _, .i .i64 _, .i .i64 _, .bo _], .ag [.i .i64 _, .i .i64 _, .s g, .s u, .i .i64 _, .i .i64 _]] => ∀ b : Bool, Holds ((decide (200 < f.size) || (decide (200 < t.size) || (decide (200 < g.size) || decide (200 < u.size)))) = b) → K (.bo b) h
  | _ => False
def W14 : Nat → Option Eng.Road := fun r => match r with
  | 3 => some ⟨some ([], (.pure 0 (.pure 1 (.pure 4 (.pure 5 (.old 2 (.pure 3 (.old 6 (.pure 7 (.pair 8 9 (.eff 10 (.eff 11 .nil)))))))))))), .nil⟩
  | _ => none
def W19 : Nat → Option Eng.Road := fun r => match r with
  | 7 => some ⟨some ([], (.pure 0 (.pure 1 (.pure 2 (.pure 3 (.pure 5 (.old 6 (.old 4 (.eff 7 .nil))))))))), (.eff 8 (.pure 9 (.pure 10 (.eff 11 .nil))))⟩
  | _ => none
noncomputable abbrev T7 : TEnv := tcons 9 tgreat (tcons 10 (tconst (.bo true)) (tcons 23 (tinl P tnil noW Go.Proofs.Try.f23) (tcons 20 (tinl P tnil noW Go.Proofs.Try.f20) (tcons 19 (tinl P tnil W19 Go.Proofs.Try.f19) (tcons 21 (tinl P tnil noW Go.Proofs.Try.f21) tnil)))))
theorem vc9 (r0 r1 : Int) (r2 : ByteArray) (r3 : Int) (r4 : ByteArray) (r5 r6 r7 r8 r9 : Int) (r10 : Bool) (v0 v1 : Int) (v2 v3 : ByteArray) (v4 v5 : Int) (R : AV → Hp → Prop) : (wpFn P tnil noW noL 0 Go.Proofs.Try.f9 [.ag [.i .i64 r0, .i .i64 r1, .s r2, .i .i64 r3, .s r4, .i .i64 r5, .i .i64 r6, .i .i64 r7, .i .i64 r8, .i .i64 r9, .bo r10], .ag [.i .i64 v0, .i .i64 v1, .s v2, .s v3, .i .i64 v4, .i .i64 v5]] [] R) = (∃ (s : ByteArray), Holds ([AV.i IntKind.i64 r0, AV.i IntKind.i64 r1, AV.s r2, AV.i IntKind.i64 r3, AV.s r4, AV.i IntKind.i64 r5, AV.i IntKind.i64 r6, AV.i IntKind.i64 r7, AV.i IntKind.i64 r8, AV.i IntKind.i64 r9, AV.bo r10][(2 : Nat)]? = some (AV.s s)) ∧ br (decide ((↑(ByteArray.size s) : Int) > (200 : Int))) (R (AV.bo true) [Blk.cells [AV.i IntKind.i64 r0, AV.i IntKind.i64 r1, AV.s r2, AV.i IntKind.i64 r3, AV.s r4, AV.i IntKind.i64 r5, AV.i IntKind.i64 r6, AV.i IntKind.i64 r7, AV.i IntKind.i64 r8, AV.i IntKind.i64 r9, AV.bo r10] true, Blk.cells [AV.i IntKind.i64 v0, AV.i IntKind.i64 v1, AV.s v2, AV.s v3, AV.i IntKind.i64 v4, AV.i IntKind.i64 v5] true]) (∃ (s : ByteArray), Holds ([AV.i IntKind.i64 r0, AV.i IntKind.i64 r1, AV.s r2, AV.i IntKind.i64 r3, AV.s r4, AV.i IntKind.i64 r5, AV.i IntKind.i64 r6, AV.i IntKind.i64 r7, AV.i IntKind.i64 r8, AV.i IntKind.i64 r9, AV.bo r10][(4 : Nat)]? = some (AV.s s)) ∧ br (decide ((↑(ByteArray.size s) : Int) > (200 : Int))) (R (AV.bo true) [Blk.cells [AV.i IntKind.i64 r0, AV.i IntKind.i64 r1, AV.s r2, AV.i IntKind.i64 r3, AV.s r4, AV.i IntKind.i64 r5, AV.i IntKind.i64 r6, AV.i IntKind.i64 r7, AV.i IntKind.i64 r8, AV.i IntKind.i64 r9, AV.bo r10] true, Blk.cells [AV.i IntKind.i64 v0, AV.i IntKind.i64 v1, AV.s v2, AV.s v3, AV.i IntKind.i64 v4, AV.i IntKind.i64 v5] true]) (∃ (s : ByteArray), Holds ([AV.i IntKind.i64 v0, AV.i IntKind.i64 v1, AV.s v2, AV.s v3, AV.i IntKind.i64 v4, AV.i IntKind.i64 v5][(2 : Nat)]? = some (AV.s s)) ∧ br (decide ((↑(ByteArray.size s) : Int) > (200 : Int))) (R (AV.bo true) [Blk.cells [AV.i IntKind.i64 r0, AV.i IntKind.i64 r1, AV.s r2, AV.i IntKind.i64 r3, AV.s r4, AV.i IntKind.i64 r5, AV.i IntKind.i64 r6, AV.i IntKind.i64 r7, AV.i IntKind.i64 r8, AV.i IntKind.i64 r9, AV.bo r10] true, Blk.cells [AV.i IntKind.i64 v0, AV.i IntKind.i64 v1, AV.s v2, AV.s v3, AV.i IntKind.i64 v4, AV.i IntKind.i64 v5] true]) (∃ (s : ByteArray), Holds ([AV.i IntKind.i64 v0, AV.i IntKind.i64 v1, AV.s v2, AV.s v3, AV.i IntKind.i64 v4, AV.i IntKind.i64 v5][(3 : Nat)]? = some (AV.s s)) ∧ R (AV.bo (decide ((↑(ByteArray.size s) : Int) > (200 : Int)))) [Blk.cells [AV.i IntKind.i64 r0, AV.i IntKind.i64 r1, AV.s r2, AV.i IntKind.i64 r3, AV.s r4, AV.i IntKind.i64 r5, AV.i IntKind.i64 r6, AV.i IntKind.i64 r7, AV.i IntKind.i64 r8, AV.i IntKind.i64 r9, AV.bo r10] true, Blk.cells [AV.i IntKind.i64 v0, AV.i IntKind.i64 v1, AV.s v2, AV.s v3, AV.i IntKind.i64 v4, AV.i IntKind.i64 v5] true])))) := by kernel_rfl
theorem vc7 (n r0 r1 : Int) (r2 : ByteArray) (r3 : Int) (r4 : ByteArray) (r5 r6 r7 r8 r9 : Int) (r10 : Bool) (v0 v1 : Int) (v2 v3 : ByteArray) (v4 v5 : Int) (R : AV → Hp → Prop) : (wpFn P T7 noW noL 0 Go.Proofs.Try.f7 [.i .i64 n, .ag [.i .i64 r0, .i .i64 r1, .s r2, .i .i64 r3, .s r4, .i .i64 r5, .i .i64 r6, .i .i64 r7, .i .i64 r8, .i .i64 r9, .bo r10], .ag [.i .i64 v0, .i .i64 v1, .s v2, .s v3, .i .i64 v4, .i .i64 v5]] [] R) = (∃ (n : Int), ∃ (n_1 : Int), ∃ (s : ByteArray), ∃ (n_2 : Int), ∃ (s_1 : ByteArray), ∃ (n_3 : Int), ∃ (n_4 : Int), ∃ (n_5 : Int), ∃ (n_6 : Int), ∃ (n_7 : Int), ∃ (b : Bool), Holds ([AV.i IntKind.i64 r0, AV.i IntKind.i64 r1, AV.s r2, AV.i IntKind.i64 r3, AV.s r4, AV.i IntKind.i64 r5, AV.i IntKind.i64 r6, AV.i IntKind.i64 r7, AV.i IntKind.i64 r8, AV.i IntKind.i64 r9, AV.bo r10] = [AV.i IntKind.i64 n, AV.i IntKind.i64 n_1, AV.s s, AV.i IntKind.i64 n_2, AV.s s_1, AV.i IntKind.i64 n_3, AV.i IntKind.i64 n_4, AV.i IntKind.i64 n_5, AV.i IntKind.i64 n_6, AV.i IntKind.i64 n_7, AV.bo b]) ∧ ∃ (n : Int), ∃ (n_8 : Int), ∃ (s_2 : ByteArray), ∃ (s_3 : ByteArray), ∃ (n_9 : Int), ∃ (n_10 : Int), Holds ([AV.i IntKind.i64 v0, AV.i IntKind.i64 v1, AV.s v2, AV.s v3, AV.i IntKind.i64 v4, AV.i IntKind.i64 v5] = [AV.i IntKind.i64 n, AV.i IntKind.i64 n_8, AV.s s_2, AV.s s_3, AV.i IntKind.i64 n_9, AV.i IntKind.i64 n_10]) ∧ ∀ (b : Bool), Holds ((decide ((200 : Nat) < ByteArray.size s) || (decide ((200 : Nat) < ByteArray.size s_1) || (decide ((200 : Nat) < ByteArray.size s_2) || decide ((200 : Nat) < ByteArray.size s_3)))) = b) → br b (R (AV.bo true) [Blk.cells [AV.i IntKind.i64 r0, AV.i IntKind.i64 r1, AV.s r2, AV.i IntKind.i64 r3, AV.s r4, AV.i IntKind.i64 r5, AV.i IntKind.i64 r6, AV.i IntKind.i64 r7, AV.i IntKind.i64 r8, AV.i IntKind.i64 r9, AV.bo r10] true, Blk.cells [AV.i IntKind.i64 v0, AV.i IntKind.i64 v1, AV.s v2, AV.s v3, AV.i IntKind.i64 v4, AV.i IntKind.i64 v5] true]) (Holds ((11 : Nat) ≤ List.length [AV.i IntKind.i64 (0 : Int), AV.i IntKind.i64 (0 : Int), AV.s (⟨#[]⟩ : ByteArray), AV.i IntKind.i64 (0 : Int), AV.s (⟨#[]⟩ : ByteArray), AV.i IntKind.i64 (0 : Int), AV.i IntKind.i64 (0 : Int), AV.i IntKind.i64 (0 : Int), AV.i IntKind.i64 (0 : Int), AV.i IntKind.i64 (0 : Int), AV.bo false]) ∧ Holds ((11 : Nat) ≤ List.length [AV.i IntKind.i64 (0 : Int), AV.i IntKind.i64 (0 : Int), AV.s (⟨#[]⟩ : ByteArray), AV.i IntKind.i64 (0 : Int), AV.s (⟨#[]⟩ : ByteArray), AV.i IntKind.i64 (0 : Int), AV.i IntKind.i64 (0 : Int), AV.i IntKind.i64 (0 : Int), AV.i IntKind.i64 (0 : Int), AV.i IntKind.i64 (0 : Int), AV.bo false]) ∧ ∃ (n : Int), ∃ (n_11 : Int), ∃ (s : ByteArray), ∃ (s_4 : ByteArray), ∃ (n_12 : Int), ∃ (n_13 : Int), Holds ([AV.i IntKind.i64 v0, AV.i IntKind.i64 v1, AV.s v2, AV.s v3, AV.i IntKind.i64 v4, AV.i IntKind.i64 v5] = [AV.i IntKind.i64 n, AV.i IntKind.i64 n_11, AV.s s, AV.s s_4, AV.i IntKind.i64 n_12, AV.i IntKind.i64 n_13]) ∧ ∃ (n_14 : Int), ∃ (n_15 : Int), ∃ (s_5 : ByteArray), ∃ (n_16 : Int), ∃ (s_6 : ByteArray), ∃ (n_17 : Int), ∃ (n_18 : Int), ∃ (n_19 : Int), ∃ (n_20 : Int), ∃ (n_21 : Int), ∃ (b : Bool), Holds ([AV.i IntKind.i64 r0, AV.i IntKind.i64 r1, AV.s r2, AV.i IntKind.i64 r3, AV.s r4, AV.i IntKind.i64 r5, AV.i IntKind.i64 r6, AV.i IntKind.i64 r7, AV.i IntKind.i64 r8, AV.i IntKind.i64 r9, AV.bo r10] = [AV.i IntKind.i64 n_14, AV.i IntKind.i64 n_15, AV.s s_5, AV.i IntKind.i64 n_16, AV.s s_6, AV.i IntKind.i64 n_17, AV.i IntKind.i64 n_18, AV.i IntKind.i64 n_19, AV.i IntKind.i64 n_20, AV.i IntKind.i64 n_21, AV.bo b]) ∧ R (AV.bo true) [Blk.cells [AV.i IntKind.i64 r0, AV.i IntKind.i64 r1, AV.s r2, AV.i IntKind.i64 r3, AV.s r4, AV.i IntKind.i64 r5, AV.i IntKind.i64 r6, AV.i IntKind.i64 r7, AV.i IntKind.i64 r8, AV.i IntKind.i64 r9, AV.bo r10] true, Blk.cells [AV.i IntKind.i64 v0, AV.i IntKind.i64 v1, AV.s v2, AV.s v3, AV.i IntKind.i64 v4, AV.i IntKind.i64 v5] true, Blk.cells [AV.i IntKind.i64 (0 : Int), AV.i IntKind.i64 (0 : Int), AV.s (⟨#[]⟩ : ByteArray), AV.i IntKind.i64 (0 : Int), AV.s (⟨#[]⟩ : ByteArray), AV.i IntKind.i64 (0 : Int), AV.i IntKind.i64 (0 : Int), AV.i IntKind.i64 (0 : Int), AV.i IntKind.i64 (0 : Int), AV.i IntKind.i64 (0 : Int), AV.bo false] true, Blk.cells [AV.i IntKind.i64 (0 : Int), AV.i IntKind.i64 (0 : Int), AV.s (⟨#[]⟩ : ByteArray), AV.i IntKind.i64 (0 : Int), AV.s (⟨#[]⟩ : ByteArray), AV.i IntKind.i64 (0 : Int), AV.i IntKind.i64 (0 : Int), AV.i IntKind.i64 (0 : Int), AV.i IntKind.i64 (0 : Int), AV.i IntKind.i64 (0 : Int), AV.bo false] true, Blk.cells [AV.i IntKind.i64 n, AV.i IntKind.i64 n_11, AV.s s, AV.s s_4, AV.i IntKind.i64 n_12, AV.i IntKind.i64 n_13] true, Blk.cells [AV.i IntKind.i64 n_14, AV.i IntKind.i64 n_15, AV.s s_5, AV.i IntKind.i64 n_16, AV.s s_6, AV.i IntKind.i64 n_17, AV.i IntKind.i64 n_18, AV.i IntKind.i64 n_19, AV.i IntKind.i64 n_20, AV.i IntKind.i64 n_21, AV.bo b] true])) := by kernel_rfl
/-- A rule; a view. -/
structure RuleV where
  sd : Int
  pr : Int
  fs : ByteArray
  fn : Int
  ts : ByteArray
  tn : Int
  fl : Int
  fh : Int
  tl : Int
  th : Int
  pass : Bool
structure ViewV where
  sd : Int
  pr : Int
  f : ByteArray
  t : ByteArray
  fp : Int
  tp : Int
def mkR (r : RuleV) : AV := .ag [.i .i64 r.sd, .i .i64 r.pr, .s r.fs, .i .i64 r.fn, .s r.ts, .i .i64 r.tn, .i .i64 r.fl, .i .i64 r.fh, .i .i64 r.tl, .i .i64 r.th, .bo r.pass]
def mkV (v : ViewV) : AV := .ag [.i .i64 v.sd, .i .i64 v.pr, .s v.f, .s v.t, .i .i64 v.fp, .i .i64 v.tp]
theorem mkR_inj {x y : RuleV} (h : mkR x = mkR y) : x = y := by
  cases x; cases y
  simp only [mkR, AV.ag.injEq, List.cons.injEq, AV.i.injEq, AV.s.injEq, AV.bo.injEq, true_and, and_true] at h
  obtain ⟨rfl, rfl, rfl, rfl, rfl, rfl, rfl, rfl, rfl, rfl, rfl⟩ := h
  rfl
theorem mkV_inj {x y : ViewV} (h : mkV x = mkV y) : x = y := by
  cases x; cases y
  simp only [mkV, AV.ag.injEq, List.cons.injEq, AV.i.injEq, AV.s.injEq, true_and, and_true] at h
  obtain ⟨rfl, rfl, rfl, rfl, rfl, rfl⟩ := h
  rfl
def mkRV (q : RuleV × ViewV) : List AV := [mkR q.1, mkV q.2]
theorem mkRV_inj (x y : RuleV × ViewV) (h : mkRV x = mkRV y) : x = y := by
  obtain ⟨a, b⟩ := x; obtain ⟨c, d⟩ := y
  simp only [mkRV, List.cons.injEq, and_true] at h
  rw [mkR_inj h.1, mkV_inj h.2]
def greatB (r : RuleV) (v : ViewV) : Bool := decide (200 < r.fs.size) || (decide (200 < r.ts.size) || (decide (200 < v.f.size) || decide (200 < v.t.size)))
theorem gt_nat (n : Nat) : decide ((n : Int) > 200) = decide (200 < n) := by
  rw [Bool.eq_iff_iff, decide_eq_true_eq, decide_eq_true_eq]; omega
theorem run9 (r : RuleV) (v : ViewV) : wpFn P tnil noW noL 0 Go.Proofs.Try.f9 (mkRV (r, v)) [] fun x _ => x = .bo (greatB r v) := by
  unfold mkRV mkR mkV
  rw [vc9]
  unfold greatB
  refine ⟨r.fs, ⟨rfl⟩, br_intro (fun h => ?_) (fun h => ⟨r.ts, ⟨rfl⟩, br_intro (fun h' => ?_) (fun h' => ⟨v.f, ⟨rfl⟩, br_intro (fun h'' => ?_) (fun h'' => ⟨v.t, ⟨rfl⟩, ?_⟩)⟩)⟩)⟩
  · rw [gt_nat] at h; rw [h, Bool.true_or]
  · rw [gt_nat] at h h'; rw [h, h', Bool.true_or, Bool.or_true]
  · rw [gt_nat] at h h' h''; rw [h, h', h'', Bool.true_or, Bool.or_true, Bool.or_true]
  · rw [gt_nat] at h h' h'' ⊢; rw [h, h', h'', Bool.false_or, Bool.false_or, Bool.false_or]
theorem fn9 : fnOk1 P noW 9 Go.Proofs.Try.f9 := ⟨Go.Proofs.Try.func9, by kernel_rfl, by kernel_rfl, by kernel_rfl⟩
theorem fn23 : fnOk1 P noW 23 Go.Proofs.Try.f23 := ⟨Go.Proofs.Try.func23, by kernel_rfl, by kernel_rfl, by kernel_rfl⟩
theorem fn20 : fnOk1 P noW 20 Go.Proofs.Try.f20 := ⟨Go.Proofs.Try.func20, by kernel_rfl, by kernel_rfl, by kernel_rfl⟩
theorem fn19 : fnOk1 P W19 19 Go.Proofs.Try.f19 := ⟨Go.Proofs.Try.func19, by kernel_rfl, by kernel_rfl, by kernel_rfl⟩
theorem fn21 : fnOk1 P noW 21 Go.Proofs.Try.f21 := ⟨Go.Proofs.Try.func21, by kernel_rfl, by kernel_rfl, by kernel_rfl⟩
theorem fn7 : fnOk1 P noW 7 Go.Proofs.Try.f7 := ⟨Go.Proofs.Try.func7, by kernel_rfl, by kernel_rfl, by kernel_rfl⟩
abbrev CGreat := Splain mkRV (fun _ => True) fun q => .bo (greatB q.1 q.2)
set_option maxRecDepth 100000 in
theorem great_s : SoundF P 9 (Cof CGreat) := SoundF.plain (follows_nil _) (noEnv_sound _) mo fn9 (fun _ => rfl) (fun _ => rfl) fun q _ => ⟨noL, 0, run9 q.1 q.2⟩
theorem tgreat_f : FollowsF tgreat (Cof CGreat) := by
  refine follows_of (Splain.det mkRV_inj) fun args h K hk => ?_
  unfold tgreat at hk
  split at hk
  · rename_i r0 r1 f r3 t r5 r6 r7 r8 r9 r10 v0 v1 g u v4 v5
    exact ⟨_, _, ⟨rfl, (⟨r0, r1, f, r3, t, r5, r6, r7, r8, r9, r10⟩, ⟨v0, v1, g, u, v4, v5⟩), rfl, trivial, rfl⟩, hk _ ⟨rfl⟩⟩
  · exact hk.elim
noncomputable abbrev Γ7 : Env := with1 9 (Cof CGreat) (with1 10 (Cconst (.bo true)) (with1 23 (Cinl P noEnv noW Go.Proofs.Try.f23) (with1 20 (Cinl P noEnv noW Go.Proofs.Try.f20) (with1 19 (Cinl P noEnv W19 Go.Proofs.Try.f19) (with1 21 (Cinl P noEnv noW Go.Proofs.Try.f21) noEnv)))))
theorem Γ7_s : Sound P Γ7 := with1_sound fn9.ok great_s (with1_sound (fnOkB_ok (by kernel_rfl)) awake_s (with1_sound fn23.ok (inl_s (noEnv_sound _) mo fn23) (with1_sound fn20.ok (inl_s (noEnv_sound _) mo fn20) (with1_sound fn19.ok (inl_s (noEnv_sound _) mo fn19) (with1_sound fn21.ok (inl_s (noEnv_sound _) mo fn21) (noEnv_sound _))))))
theorem Γ7_f : Follows T7 Γ7 := follows_cons tgreat_f (follows_cons (follows_const _) (follows_cons (tinl_f (follows_nil _) fn23) (follows_cons (tinl_f (follows_nil _) fn20) (follows_cons (tinl_f (follows_nil _) fn19) (follows_cons (tinl_f (follows_nil _) fn21) (follows_nil _))))))
set_option maxRecDepth 100000 in
theorem run7 (n : Int) (r : RuleV) (v : ViewV) : Holds (wpFn P T7 noW noL 0 Go.Proofs.Try.f7 [.i .i64 n, mkR r, mkV v] [] fun x _ => x = .bo true) := by
  refine ⟨?_⟩
  unfold mkR mkV
  rw [vc7]
  refine ⟨_, _, _, _, _, _, _, _, _, _, _, ⟨rfl⟩, _, _, _, _, _, _, ⟨rfl⟩, ?_⟩
  rintro b _
  refine br_intro (fun _ => rfl) (fun _ => ⟨⟨by decide⟩, ⟨by decide⟩, _, _, _, _, _, _, ⟨rfl⟩, _, _, _, _, _, _, _, _, _, _, _, ⟨rfl⟩, rfl⟩)
end Go.Proofs.Ytfnbbgnknkondaa.RulesRun
