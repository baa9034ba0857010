/- What was written is read back: the law's parts joined; its arguments. -/
import Derived.Test.YtiknpjblmihmkaaDoorNumBack
import Derived.Test.YtiknpjblmihmkaaDoorEngZ
import Derived.WalkKit
import Derived.ProofKit
set_option linter.unusedVariables false
set_option linter.unusedSimpArgs false
open Go Go.Proofs.YtiknpjblmihmkaaDoor.Eng Go.RowKit
namespace Go.Proofs.YtiknpjblmihmkaaDoor.NumRun
theorem law6nn (b : ByteArray) : wpFn P (T6 F0 nG nB nC) noW noL 0 Go.Proofs.Tryd.f6 [.sn, .sn, .s b] [] fun v _ => v = .bo true := by
  have e0 : (⟨#[]⟩ : ByteArray).size = 0 := rfl
  have yb : F0.Y (⟨#[]⟩ ++ b) 0 = b := rest_of ⟨#[]⟩ b
  rw [vc6nn]
  refine br_intro (fun _ => rfl) fun h => ?_
  have hb : b.size ≤ 300 := by simp at h; omega
  refine ⟨⟨by omega⟩, ⟨⟨by omega, by omega, by rw [ByteArray.size_append]; omega⟩⟩, br_intro (fun h => absurd h ?_) (fun _ => ⟨⟨#[]⟩ ++ b, ⟨rfl⟩, gZ (⟨#[]⟩ ++ b), ⟨rfl⟩, br_intro (fun h => absurd h ?_) (fun _ => rfl)⟩)⟩
  · rw [yb]; exact tl' _
  · rw [show gZ (⟨#[]⟩ ++ b) = ((⟨#[]⟩ ++ b : ByteArray).size : Int) from rfl, Int.sub_self]; decide
theorem law6nr {leny cap : Nat} {c1 : List AV} (b : ByteArray) : wpFn P (T6 F0 nG nB nC) noW noL 1 Go.Proofs.Tryd.f6 [.sn, .sl 0 0 leny 1 (some cap), .s b] [.cells c1 false] fun v _ => v = .bo true := by
  have e0 : (⟨#[]⟩ : ByteArray).size = 0 := rfl
  have yb : F0.Y (⟨#[]⟩ ++ b) 0 = b := rest_of ⟨#[]⟩ b
  rw [vc6nr]
  refine br_intro (fun _ => rfl) fun h => ?_
  have hb : b.size ≤ 300 := by simp at h; omega
  refine ⟨⟨by omega⟩, ⟨⟨by omega, by omega, by rw [ByteArray.size_append]; omega⟩⟩, br_intro (fun h => absurd h ?_) (fun _ => ⟨⟨#[]⟩ ++ b, ⟨rfl⟩, gZ (⟨#[]⟩ ++ b), ⟨rfl⟩, br_intro (fun h => absurd h ?_) (fun _ => rfl)⟩)⟩
  · rw [yb]; exact tl' _
  · rw [show gZ (⟨#[]⟩ ++ b) = ((⟨#[]⟩ ++ b : ByteArray).size : Int) from rfl, Int.sub_self]; decide
theorem fn6 : fnOk1 P noW 6 Go.Proofs.Tryd.f6 := ⟨Go.Proofs.Tryd.func6, by kernel_rfl, by kernel_rfl, by kernel_rfl⟩
theorem fb18 : fnOk1 P noW 18 Go.Proofs.Tryd.f18 := ⟨Go.Proofs.Tryd.func18, by kernel_rfl, by kernel_rfl, by kernel_rfl⟩
theorem fb19 : fnOk1 P noW 19 Go.Proofs.Tryd.f19 := ⟨Go.Proofs.Tryd.func19, by kernel_rfl, by kernel_rfl, by kernel_rfl⟩
theorem fb20 : fnOk1 P noW 20 Go.Proofs.Tryd.f20 := ⟨Go.Proofs.Tryd.func20, by kernel_rfl, by kernel_rfl, by kernel_rfl⟩
theorem fb21 : fnOk1 P noW 21 Go.Proofs.Tryd.f21 := ⟨Go.Proofs.Tryd.func21, by kernel_rfl, by kernel_rfl, by kernel_rfl⟩
theorem fb28 : fnOk1 P noW 28 Go.Proofs.Tryd.f28 := ⟨Go.Proofs.Tryd.func28, by kernel_rfl, by kernel_rfl, by kernel_rfl⟩
noncomputable abbrev ΓM : Env := with1 32 (Cof (Sread gG okN (vN F0) (.i .i64 0) gC gA)) noEnv
theorem ΓM_s : Sound P ΓM := with1_sound fn32.ok number_s (noEnv_sound _)
theorem ΓM_f : Follows (tcons 32 (tNum F0) tnil) ΓM := follows_cons tread_f (follows_nil _)
noncomputable abbrev Γ6 : Env :=
  with1 10 (Cconst (.bo true)) (with1 15 (Cof (Sfault mkI (fun _ => True) (fun q => nG q.1 q.2 = true) rrB eeB rowB)) (with1 18 (Cinl P noEnv noW Go.Proofs.Tryd.f18) (with1 28 (Cinl P noEnv noW Go.Proofs.Tryd.f28)
  (with1 19 (Cinl P ΓM noW Go.Proofs.Tryd.f19) (with1 20 (Cinl P ΓM noW Go.Proofs.Tryd.f20) (with1 21 (Cinl P ΓM noW Go.Proofs.Tryd.f21)
  (with1 25 (Cof (Srest gY gZ)) noEnv)))))))
theorem Γ6_s : Sound P Γ6 := with1_sound (fnOkB_ok (by kernel_rfl)) awake_s (with1_sound fn15.ok big_s (with1_sound fb18.ok (inl_s (noEnv_sound _) mo fb18) (with1_sound fb28.ok (inl_s (noEnv_sound _) mo fb28)
  (with1_sound fb19.ok (inl_s ΓM_s mo fb19) (with1_sound fb20.ok (inl_s ΓM_s mo fb20) (with1_sound fb21.ok (inl_s ΓM_s mo fb21)
  (with1_sound fn25.ok rest1_s (noEnv_sound _))))))))
theorem Γ6_f : Follows (T6 F0 nG nB nC) Γ6 := follows_cons (follows_const _) (follows_cons tbig_f (follows_cons (tinl_f (follows_nil _) fb18) (follows_cons (tinl_f (follows_nil _) fb28)
  (follows_cons (tinl_f ΓM_f fb19) (follows_cons (tinl_f ΓM_f fb20) (follows_cons (tinl_f ΓM_f fb21)
  (follows_cons trest_f (follows_nil _))))))))
def mkU (x : Int) : List AV := [.i .u32 x]
def unU (x : Int) : List Value := [.int .u32 x]
def mkS (x : Int) : List AV := [.i .u8 x]
def unS (x : Int) : List Value := [.int .u8 x]
theorem mkU_len (q : Int) : (mkU q).length = 1 := rfl
theorem mkS_len (q : Int) : (mkS q).length = 1 := rfl
theorem unU_rel (ρ : List Eng.Loc) (q : Int) : VRels ρ (mkU q) (unU q) := ⟨_, _, rfl, rfl, rfl⟩
theorem unS_rel (ρ : List Eng.Loc) (q : Int) : VRels ρ (mkS q) (unS q) := ⟨_, _, rfl, rfl, rfl⟩
theorem el_u32 {H : Type} {enc : TypeId × Value → H} {w : World} (fuel : Nat) (cs : List Value) (y : DataW H × List MemPlace) (h : DataW.trod enc P w 0 (fun _ => true) true fuel 62 cs = some y) : ∃ b : Int, cs = unU b ∧ (0 ≤ b ∧ b ≤ 4294967295) := by
  obtain ⟨n, rfl, _, hw⟩ := DataW.trod_int Go.Proofs.Tryd.underlying62 h
  exact ⟨n, rfl, by simpa [Lit.wf, IntKind.min, IntKind.max, IntKind.signed, IntKind.bits] using hw⟩
theorem el_u8 {H : Type} {enc : TypeId × Value → H} {w : World} (fuel : Nat) (cs : List Value) (y : DataW H × List MemPlace) (h : DataW.trod enc P w 0 (fun _ => true) true fuel 5 cs = some y) : ∃ b : Int, cs = unS b ∧ (0 ≤ b ∧ b ≤ 255) := by
  obtain ⟨n, rfl, _, hw⟩ := DataW.trod_int Go.Proofs.Tryd.underlying5 h
  exact ⟨n, rfl, by simpa [Lit.wf, IntKind.min, IntKind.max, IntKind.signed, IntKind.bits] using hw⟩
theorem recsU (xs : List Int) : recs mkU xs = xs.map (AV.i .u32) := recs_map xs
theorem recsS (xs : List Int) : recs mkS xs = xs.map (AV.i .u8) := recs_map xs
end Go.Proofs.YtiknpjblmihmkaaDoor.NumRun
