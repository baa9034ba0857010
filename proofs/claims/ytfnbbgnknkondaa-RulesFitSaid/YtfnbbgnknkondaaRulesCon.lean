/- The chapter's functions by contract. -/
import Derived.Test.YtfnbbgnknkondaaRulesNe
set_option linter.unusedVariables false
set_option linter.unusedSimpArgs false
open Go Go.Proofs.Ytfnbbgnknkondaa.Eng Go.RowKit
namespace Go.Proofs.Ytfnbbgnknkondaa.RulesRun
def Wk10 : FuncId → Nat → Option Eng.Road
  | 14, 3 => some ⟨some ([], (.pure 0 (.pure 1 (.pure 4 (.pure 5 (.old 2 (.pure 3 (.old 6 (.pure 7 (.pair 8 9 (.eff 10 (.eff 11 .nil)))))))))))), .nil⟩
  | 19, 7 => some ⟨some ([], (.pure 0 (.pure 1 (.pure 2 (.pure 3 (.pure 5 (.old 6 (.old 4 (.eff 7 .nil))))))))), (.eff 8 (.pure 9 (.pure 10 (.eff 11 .nil))))⟩
  | _, _ => none
def C0 : Env := fun _ _ _ => none
theorem C0_s : Sound P C0 := fun _ _ _ _ _ h => by cases h
noncomputable def Γ0 : Env := envN P Wk10 100 [10, 12, 14, 16, 18, 19, 20, 21, 24, 25, 26, 27, 28, 31, 32, 33, 34, 35, 36, 37, 38, 39, 40, 42, 43, 44, 45, 47] [] C0 12
set_option maxRecDepth 10000000 in
theorem Γ0_s : Sound P Γ0 := envN_sound (by kernel_rfl) (by kernel_rfl) C0_s _
def isTrue (r : Option (AV × Hp)) : Bool := match r with
  | some (.bo true, _) => true
  | _ => false
theorem isTrue_spec {r : Option (AV × Hp)} (h : isTrue r = true) : ∃ h', r = some (.bo true, h') := by
  unfold isTrue at h
  split at h
  · exact ⟨_, rfl⟩
  · cases h
set_option maxRecDepth 10000000 in
theorem awake_true : isTrue (Γ0 10 [] []) = true := by kernel_rfl
theorem awake_s : SoundF P 10 (Cconst (.bo true)) := by
  obtain ⟨h', he⟩ := isTrue_spec awake_true
  exact SoundF.const Γ0_s he rfl
def mkSI (q : ByteArray × Int) : List AV := [.s q.1, .i .i64 q.2]
def mkN (q : ByteArray × Int) : List AV := [.ag [.s q.1, .i .i64 q.2]]
def mkNS (q : ByteArray × Int × ByteArray) : List AV := [.ag [.s q.1, .i .i64 q.2.1], .s q.2.2]
theorem mkSI_inj (x y : ByteArray × Int) (h : mkSI x = mkSI y) : x = y := by
  obtain ⟨a, b⟩ := x; obtain ⟨c, d⟩ := y
  simp only [mkSI, List.cons.injEq, AV.s.injEq, AV.i.injEq, true_and, and_true] at h
  rw [h.1, h.2]
theorem mkN_inj (x y : ByteArray × Int) (h : mkN x = mkN y) : x = y := by
  obtain ⟨a, b⟩ := x; obtain ⟨c, d⟩ := y
  simp only [mkN, List.cons.injEq, AV.ag.injEq, AV.s.injEq, AV.i.injEq, true_and, and_true] at h
  rw [h.1, h.2]
theorem mkNS_inj (x y : ByteArray × Int × ByteArray) (h : mkNS x = mkNS y) : x = y := by
  obtain ⟨a, b, e⟩ := x; obtain ⟨c, d, f⟩ := y
  simp only [mkNS, List.cons.injEq, AV.ag.injEq, AV.s.injEq, AV.i.injEq, true_and, and_true] at h
  rw [h.1.1, h.1.2, h.2]
def okBit (q : ByteArray × Int) : Prop := 0 ≤ q.2 ∧ q.2 < 8 * q.1.size ∧ q.1.size ≤ 16
def okFirst (q : ByteArray × Int) : Prop := 0 ≤ q.2 ∧ q.2 ≤ 8 * q.1.size ∧ (q.1.size = 4 ∨ q.1.size = 16)
abbrev CBit := Splain mkSI okBit fun q => .i .u8 (bitS q.1 q.2)
abbrev CNet (N : ByteArray → Int → Bool) := Splain mkN (fun _ => True) fun q => .bo (N q.1 q.2)
abbrev CIn := Splain mkNS (fun _ => True) fun q => .bo (inB q.1 q.2.1 q.2.2)
abbrev CFirst := Splain mkSI okFirst fun q => .s (cutS q.1 q.2)
theorem tbit_f : FollowsF (tbit bitS) (Cof CBit) := by
  refine follows_of (Splain.det mkSI_inj) fun args h K hk => ?_
  unfold tbit at hk
  split at hk
  · rename_i s i
    exact ⟨_, _, ⟨rfl, (s, i), rfl, hk.1.out, rfl⟩, hk.2⟩
  · exact hk.elim
theorem tfirst_f : FollowsF (tfirst cutS) (Cof CFirst) := by
  refine follows_of (Splain.det mkSI_inj) fun args h K hk => ?_
  unfold tfirst at hk
  split at hk
  · rename_i s i
    exact ⟨_, _, ⟨rfl, (s, i), rfl, hk.1.out, rfl⟩, hk.2⟩
  · exact hk.elim
theorem tnetS_f (N : ByteArray → Int → Bool) : FollowsF (tnetS N) (Cof (CNet N)) := by
  refine follows_of (Splain.det mkN_inj) fun args h K hk => ?_
  unfold tnetS at hk
  split at hk
  · rename_i s i
    exact ⟨_, _, ⟨rfl, (s, i), rfl, trivial, rfl⟩, hk _ ⟨rfl⟩⟩
  · exact hk.elim
theorem tinS_f : FollowsF (tinS inB) (Cof CIn) := by
  refine follows_of (Splain.det mkNS_inj) fun args h K hk => ?_
  unfold tinS at hk
  split at hk
  · rename_i s i a
    exact ⟨_, _, ⟨rfl, (s, i, a), rfl, trivial, rfl⟩, hk _ ⟨rfl⟩⟩
  · exact hk.elim
theorem fn28 : fnOk1 P noW 28 Go.Proofs.Try.f28 := ⟨Go.Proofs.Try.func28, by kernel_rfl, by kernel_rfl, by kernel_rfl⟩
theorem fn27 : fnOk1 P noW 27 Go.Proofs.Try.f27 := ⟨Go.Proofs.Try.func27, by kernel_rfl, by kernel_rfl, by kernel_rfl⟩
theorem fn26 : fnOk1 P noW 26 Go.Proofs.Try.f26 := ⟨Go.Proofs.Try.func26, by kernel_rfl, by kernel_rfl, by kernel_rfl⟩
theorem fn12 : fnOk1 P noW 12 Go.Proofs.Try.f12 := ⟨Go.Proofs.Try.func12, by kernel_rfl, by kernel_rfl, by kernel_rfl⟩
theorem fn22 : fnOk1 P noW 22 Go.Proofs.Try.f22 := ⟨Go.Proofs.Try.func22, by kernel_rfl, by kernel_rfl, by kernel_rfl⟩
theorem fn5 : fnOk1 P W5 5 Go.Proofs.Try.f5 := ⟨Go.Proofs.Try.func5, by kernel_rfl, by kernel_rfl, by kernel_rfl⟩
set_option maxRecDepth 100000 in
theorem bit_s : SoundF P 28 (Cof CBit) := SoundF.plain (follows_nil _) (noEnv_sound _) mo fn28 (fun _ => rfl) (fun _ => rfl) fun q hq => ⟨noL, 0, run28 hq.1 hq.2.1 hq.2.2⟩
set_option maxRecDepth 100000 in
theorem any_s : SoundF P 27 (Cof (CNet anyB)) := SoundF.plain (follows_nil _) (noEnv_sound _) mo fn27 (fun _ => rfl) (fun _ => rfl) fun q _ => ⟨noL, 0, run27 q.1 q.2⟩
noncomputable abbrev Γ26 : Env := with1 27 (Cof (CNet anyB)) (with1 28 (Cof CBit) noEnv)
theorem Γ26_s : Sound P Γ26 := with1_sound fn27.ok any_s (with1_sound fn28.ok bit_s (noEnv_sound _))
theorem Γ26_f : Follows (tcons 27 (tnetS anyB) (tcons 28 (tbit bitS) tnil)) Γ26 := follows_cons (tnetS_f _) (follows_cons tbit_f (follows_nil _))
set_option maxRecDepth 100000 in
theorem net_s : SoundF P 26 (Cof (CNet netB)) := SoundF.plain Γ26_f Γ26_s mo fn26 (fun _ => rfl) (fun _ => rfl) fun q _ => ⟨head26 q.1 q.2, 0, (run26 q.1 q.2).out⟩
noncomputable abbrev Γ12 : Env := with1 26 (Cof (CNet netB)) Γ26
theorem Γ12_s : Sound P Γ12 := with1_sound fn26.ok net_s Γ26_s
theorem Γ12_f : Follows (T12 bitS anyB netB) Γ12 := follows_cons (tnetS_f _) Γ26_f
set_option maxRecDepth 100000 in
theorem in_s : SoundF P 12 (Cof CIn) := SoundF.plain Γ12_f Γ12_s mo fn12 (fun _ => rfl) (fun _ => rfl) fun q _ => ⟨head12 q.1 q.2.1 q.2.2, 0, (run12 q.1 q.2.1 q.2.2).out⟩
set_option maxRecDepth 100000 in
theorem first_s : SoundF P 22 (Cof CFirst) := SoundF.plain (follows_nil _) (noEnv_sound _) mo fn22 (fun _ => rfl) (fun _ => rfl) fun q hq => ⟨head22 q.1, 0, run22 hq.1 hq.2.1 hq.2.2⟩
noncomputable abbrev Γ5 : Env := with1 12 (Cof CIn) (with1 10 (Cconst (.bo true)) (with1 22 (Cof CFirst) noEnv))
theorem Γ5_s : Sound P Γ5 := with1_sound fn12.ok in_s (with1_sound (fnOkB_ok (by kernel_rfl)) awake_s (with1_sound fn22.ok first_s (noEnv_sound _)))
theorem Γ5_f : Follows (T5 inB cutS) Γ5 := follows_cons tinS_f (follows_cons (follows_const _) (follows_cons tfirst_f (follows_nil _)))
end Go.Proofs.Ytfnbbgnknkondaa.RulesRun
