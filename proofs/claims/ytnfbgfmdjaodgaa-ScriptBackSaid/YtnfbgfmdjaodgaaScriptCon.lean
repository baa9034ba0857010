/- The functions' contracts. -/
import Derived.Test.YtnfbgfmdjaodgaaScriptLaw0
set_option linter.unusedVariables false
set_option linter.unusedSimpArgs false
open Go Go.Proofs.Ytnfbgfmdjaodgaa.Eng Go.RowKit
namespace Go.Proofs.Ytnfbgfmdjaodgaa.ScriptRun
theorem ok23 : fnOk1 P noW 23 Go.Proofs.Try.f23 := ⟨Go.Proofs.Try.func23, by kernel_rfl, by kernel_rfl, by kernel_rfl⟩
theorem ok25 : fnOk1 P noW 25 Go.Proofs.Try.f25 := ⟨Go.Proofs.Try.func25, by kernel_rfl, by kernel_rfl, by kernel_rfl⟩
theorem ok26 : fnOk1 P noW 26 Go.Proofs.Try.f26 := ⟨Go.Proofs.Try.func26, by kernel_rfl, by kernel_rfl, by kernel_rfl⟩
theorem ok19 : fnOk1 P W19 19 Go.Proofs.Try.f19 := ⟨Go.Proofs.Try.func19, by kernel_rfl, by kernel_rfl, by kernel_rfl⟩
theorem ok20 : fnOk1 P noW 20 Go.Proofs.Try.f20 := ⟨Go.Proofs.Try.func20, by kernel_rfl, by kernel_rfl, by kernel_rfl⟩
theorem ok17 : fnOk1 P noW 17 Go.Proofs.Try.f17 := ⟨Go.Proofs.Try.func17, by kernel_rfl, by kernel_rfl, by kernel_rfl⟩
theorem ok16 : fnOk1 P noW 16 Go.Proofs.Try.f16 := ⟨Go.Proofs.Try.func16, by kernel_rfl, by kernel_rfl, by kernel_rfl⟩
theorem ok15 : fnOk1 P noW 15 Go.Proofs.Try.f15 := ⟨Go.Proofs.Try.func15, by kernel_rfl, by kernel_rfl, by kernel_rfl⟩
theorem ok14 : fnOk1 P noW 14 Go.Proofs.Try.f14 := ⟨Go.Proofs.Try.func14, by kernel_rfl, by kernel_rfl, by kernel_rfl⟩
theorem ok13 : fnOk1 P noW 13 Go.Proofs.Try.f13 := ⟨Go.Proofs.Try.func13, by kernel_rfl, by kernel_rfl, by kernel_rfl⟩
theorem ok12 : fnOk1 P noW 12 Go.Proofs.Try.f12 := ⟨Go.Proofs.Try.func12, by kernel_rfl, by kernel_rfl, by kernel_rfl⟩
theorem ok11 : fnOk1 P noW 11 Go.Proofs.Try.f11 := ⟨Go.Proofs.Try.func11, by kernel_rfl, by kernel_rfl, by kernel_rfl⟩
theorem ok10 : fnOk1 P noW 10 Go.Proofs.Try.f10 := ⟨Go.Proofs.Try.func10, by kernel_rfl, by kernel_rfl, by kernel_rfl⟩
/-! numbers' bytes -/
def mkN (q : Int × Int) : List AV := [.i .i64 q.1, .i .i64 q.2]
theorem mkN_inj (x y : Int × Int) (h : mkN x = mkN y) : x = y := by
  obtain ⟨a, b⟩ := x
  obtain ⟨a', b'⟩ := y
  simp only [mkN, List.cons.injEq, AV.i.injEq, and_true, true_and] at h
  obtain ⟨rfl, rfl⟩ := h
  rfl
theorem unNum_eq (args : List AV) (x : Int × Int) (h : unNum args = some x) : args = mkN x := by
  unfold unNum at h
  split at h
  · cases h; rfl
  · cases h
theorem unEv_eq (args : List AV) (x : Ev) (h : unEv args = some x) : args = mkE x := by
  unfold unEv at h
  split at h
  · cases h; rfl
  · cases h
theorem mkE_inj (x y : Ev) (h : mkE x = mkE y) : x = y := by
  simp only [mkE, List.cons.injEq, AV.ag.injEq, and_true] at h
  exact mkEv_inj _ _ h
def mkS (s : ByteArray) : List AV := [.s s]
theorem mkS_inj (x y : ByteArray) (h : mkS x = mkS y) : x = y := by simpa [mkS] using h
theorem unStr_eq (args : List AV) (x : ByteArray) (h : unStr args = some x) : args = mkS x := by
  unfold unStr at h
  split at h
  · cases h; rfl
  · cases h
def mkR2 (q : ByteArray × Int) : List AV := [.s q.1, .i .i64 q.2]
theorem mkR2_inj (x y : ByteArray × Int) (h : mkR2 x = mkR2 y) : x = y := by
  obtain ⟨a, b⟩ := x
  obtain ⟨a', b'⟩ := y
  simp only [mkR2, List.cons.injEq, AV.i.injEq, AV.s.injEq, and_true, true_and] at h
  obtain ⟨rfl, rfl⟩ := h
  rfl
theorem unRd2_eq (args : List AV) (x : ByteArray × Int) (h : unRd2 args = some x) : args = mkR2 x := by
  unfold unRd2 at h
  split at h
  · cases h; rfl
  · cases h
def mk1 (_ : Unit) (a : AV) : List AV := [a]
def mk2 (_ : Unit) (a b : AV) : List AV := [a, b]
theorem mk1_inj (x y : Unit) (a b : AV) (h : mk1 x a = mk1 y b) : x = y ∧ a = b := ⟨rfl, by simpa [mk1] using h⟩
theorem mk2_inj (x y : Unit) (a b a' b' : AV) (h : mk2 x a a' = mk2 y b b') : x = y ∧ a = b ∧ a' = b' := ⟨rfl, by simpa [mk2] using h⟩
theorem unL1_eq (args : List AV) (x : Unit × AV) (h : unL1 args = some x) : args = mk1 x.1 x.2 := by
  unfold unL1 at h
  split at h
  · cases h; rfl
  · cases h
theorem unL2_eq (args : List AV) (x : Unit × AV × AV) (h : unL2 args = some x) : args = mk2 x.1 x.2.1 x.2.2 := by
  unfold unL2 at h
  split at h
  · cases h; rfl
  · cases h
theorem mk1_plain : Plain1 mk1 := fun _ a a' ρ ρ' vs h hv => vrels_cons_iff h (fun _ h => vrels_nil h) hv
theorem mk2_plain : Plain2 mk2 := fun _ a a' b b' ρ ρ' vs h h' hv => vrels_cons_iff h (fun _ hv => vrels_cons_iff h' (fun _ h => vrels_nil h) hv) hv
noncomputable def E31 : Env := with1 31 (Cinl P noEnv noW Go.Proofs.Try.f31) noEnv
theorem E31_s : Sound P E31 := with1_sound ok31.ok (inl_s (noEnv_sound P) mo ok31) (noEnv_sound P)
theorem E31_f : Follows T31 E31 := follows_cons (tinl_f (follows_nil _) ok31) (follows_nil _)
abbrev SN : Rel := S0 mkN okNum fun q => (.s (Lb q), [])
theorem s28 : SoundF P 28 (Cof SN) := s0 E31_f E31_s mo ok28 (fun _ => rfl) (fun _ => rfl) (fun _ => noL) fun q hq R hR => run28 hq hR
theorem s30 : SoundF P 30 (Cof SN) := s0 (follows_nil noEnv) (noEnv_sound P) mo ok30 (fun _ => rfl) (fun _ => rfl) (fun _ => noL) fun q hq R hR => run30 hq hR
theorem fN : FollowsF (t0 unNum okNum (outS Lb)) (Cof SN) := f0 mkN_inj unNum_eq fun _ _ h => h
noncomputable def E28 : Env := with1 28 (Cof SN) noEnv
theorem E28_s : Sound P E28 := with1_sound ok28.ok s28 (noEnv_sound P)
theorem E28_f : Follows (T28 Lb) E28 := follows_cons fN (follows_nil _)
noncomputable def E30 : Env := with1 30 (Cof SN) noEnv
theorem E30_s : Sound P E30 := with1_sound ok30.ok s30 (noEnv_sound P)
theorem E30_f : Follows (T30 Lb) E30 := follows_cons fN (follows_nil _)
/-! write -/
noncomputable def E24 : Env := with1 27 (Cinl P E28 W27 Go.Proofs.Try.f27) (with1 29 (Cinl P E28 W29 Go.Proofs.Try.f29) noEnv)
theorem E24_s : Sound P E24 := with1_sound ok27.ok (inl_s E28_s mo ok27) (with1_sound ok29.ok (inl_s E28_s mo ok29) (noEnv_sound P))
theorem E24_f : Follows (T24 Lb) E24 := follows_cons (tinl_f E28_f ok27) (follows_cons (tinl_f E28_f ok29) (follows_nil _))
noncomputable def E21 : Env := with1 24 (Cinl P E24 noW Go.Proofs.Try.f24) noEnv
theorem E21_s : Sound P E21 := with1_sound ok24.ok (inl_s E24_s mo ok24) (noEnv_sound P)
theorem E21_f : Follows (T21 Lb) E21 := follows_cons (tinl_f E24_f ok24) (follows_nil _)
abbrev bigOk (e : Ev) : Prop := e.2.2.size ≤ 4611686018427387904
theorem s21 : SoundF P 21 (Cof (S0 mkE bigOk fun e => (resW e, []))) := s0 E21_f E21_s mo ok21 (fun _ => rfl) (fun _ => rfl) (fun _ => noL) fun e he R hR => run21 he hR
theorem f21_f : FollowsF (t0 unEv bigOk fun x K => K (.tu [.s (bytesE x), .bo (okE x)]) []) (Cof (S0 mkE bigOk fun e => (resW e, []))) := f0 mkE_inj unEv_eq fun _ _ h => h
noncomputable def Ew : Env := with1 21 (Cof (S0 mkE bigOk fun e => (resW e, []))) noEnv
theorem Ew_s : Sound P Ew := with1_sound ok21.ok s21 (noEnv_sound P)
theorem Ew_f : Follows Tenc Ew := follows_cons f21_f (follows_nil _)
/-! right events, their bytes: the reference's -/
theorem s18 : SoundF P 18 (Cof (S0 mkE (fun _ => True) fun e => (.bo (okE e), []))) := s0 (follows_nil noEnv) (noEnv_sound P) mo ok18 (fun _ => rfl) (fun _ => rfl) (fun _ => noL) fun e _ R hR => run18 hR
theorem f18_f : FollowsF (t0 unEv (fun _ => True) fun x K => K (.bo (okE x)) []) (Cof (S0 mkE (fun _ => True) fun e => (.bo (okE e), []))) := f0 mkE_inj unEv_eq fun _ _ h => h
theorem s22 : SoundF P 22 (Cof (S0 mkE (fun e => okE e = true) fun e => (.s (bytesE e), []))) := s0 E30_f E30_s mo ok22 (fun _ => rfl) (fun _ => rfl) (fun _ => noL) fun e he R hR => run22 he hR
theorem f22_f : FollowsF (t0 unEv (fun e => okE e = true) fun x K => K (.s (bytesE x)) []) (Cof (S0 mkE (fun e => okE e = true) fun e => (.s (bytesE e), []))) := f0 mkE_inj unEv_eq fun _ _ h => h
noncomputable def Er : Env := with1 18 (Cof (S0 mkE (fun _ => True) fun e => (.bo (okE e), []))) (with1 22 (Cof (S0 mkE (fun e => okE e = true) fun e => (.s (bytesE e), []))) noEnv)
theorem Er_s : Sound P Er := with1_sound ok18.ok s18 (with1_sound ok22.ok s22 (noEnv_sound P))
theorem Er_f : Follows TencR Er := follows_cons f18_f (follows_cons f22_f (follows_nil _))
theorem s17 : SoundF P 17 (Cof (S0 mkE bigOk fun e => (.bo (okE e), []))) := s0 Ew_f Ew_s mo ok17 (fun _ => rfl) (fun _ => rfl) (fun _ => noL) fun e he R hR => run17 he hR
theorem f17_f : FollowsF (t0 unEv bigOk fun x K => K (.bo (okE x)) []) (Cof (S0 mkE bigOk fun e => (.bo (okE e), []))) := f0 mkE_inj unEv_eq fun _ _ h => h
/-! read -/
noncomputable def E25 : Env := with1 23 (Cinl P noEnv noW Go.Proofs.Try.f23) noEnv
theorem E25_s : Sound P E25 := with1_sound ok23.ok (inl_s (noEnv_sound P) mo ok23) (noEnv_sound P)
theorem E25_f : Follows T25 E25 := follows_cons (tinl_f (follows_nil _) ok23) (follows_nil _)
noncomputable def E24r : Env := with1 25 (Cinl P E25 noW Go.Proofs.Try.f25) (with1 26 (Cinl P E25 noW Go.Proofs.Try.f26) noEnv)
theorem E24r_s : Sound P E24r := with1_sound ok25.ok (inl_s E25_s mo ok25) (with1_sound ok26.ok (inl_s E25_s mo ok26) (noEnv_sound P))
theorem E24r_f : Follows T24r E24r := follows_cons (tinl_f E25_f ok25) (follows_cons (tinl_f E25_f ok26) (follows_nil _))
noncomputable def E19 : Env := with1 24 (Cinl P E24r noW Go.Proofs.Try.f24) noEnv
theorem E19_s : Sound P E19 := with1_sound ok24.ok (inl_s E24r_s mo ok24) (noEnv_sound P)
theorem E19_f : Follows T19 E19 := follows_cons (tinl_f E24r_f ok24) (follows_nil _)
theorem s19 : SoundF P 19 (Cof (S0 mkS okS fun s => (resR (rdP s), []))) := s0 E19_f E19_s mo ok19 (fun _ => rfl) (fun _ => rfl) (fun _ => noL) fun s hs R hR => run19 hs hR
noncomputable def Ed : Env := with1 19 (Cof (S0 mkS okS fun s => (resR (rdP s), []))) noEnv
theorem Ed_s : Sound P Ed := with1_sound ok19.ok s19 (noEnv_sound P)
theorem Ed_f : Follows Tdec Ed := follows_cons (f0 mkS_inj unStr_eq fun _ _ h => h) (follows_nil _)
def hd20 (q : ByteArray × Int) : Nat → Option Head := head20 q.1 ((((q.1[q.2.toNat]?).getD 0).toNat : Nat) : Int)
theorem s20 : SoundF P 20 (Cof (S0 mkR2 okR fun q => (resR (rdR q), []))) := s0 (follows_nil noEnv) (noEnv_sound P) mo ok20 (fun _ => rfl) (fun _ => rfl) hd20 fun q hq R hR => by
  obtain ⟨s, a⟩ := q
  have h1 := hq.1
  have h2 := hq.2.1
  simp only at h1 h2
  obtain ⟨b, hb⟩ : ∃ b, s[a.toNat]? = some b := by
    rw [bget]
    exact ⟨_, List.getElem?_eq_getElem (show a.toNat < s.data.toList.length by rw [size_list]; omega)⟩
  have e : hd20 (s, a) = head20 s b.toNat := by unfold hd20; simp only [hb]; rfl
  rw [e]
  exact run20 hq hb hR
noncomputable def EdR : Env := with1 20 (Cof (S0 mkR2 okR fun q => (resR (rdR q), []))) noEnv
theorem EdR_s : Sound P EdR := with1_sound ok20.ok s20 (noEnv_sound P)
theorem EdR_f : Follows TdecR EdR := follows_cons (f0 mkR2_inj unRd2_eq fun _ _ h => h) (follows_nil _)
/-! lists -/
abbrev S11 : Rel := S1 1 mkB mk1 okL1 fun q => resL 3 mkEv (decode q.2)
theorem s11 : SoundF P 11 (Cof S11) := s1 Ed_f Ed_s mo ok11 mk1_plain mkB_u (fun q => resL_new mkEv_u _) (fun y hy => ⟨head11 [], fun R hR => run11n hR⟩) fun y l off cap c hok h1 h2 h3 h4 => ⟨head11 [.cells c false], fun R hR => run11 hok h1 h2 h3 h4 hR⟩
theorem f11_f : FollowsF (t1 1 mkB unL1 okL1 fun x => outL 3 mkEv (decode x.2)) (Cof S11) := f1 mkB_len mkB_inj mk1_inj unL1_eq fun _ _ h => outL_spec h
abbrev S12 : Rel := S2 3 3 mkEv mkEv mk2 okL2 fun q => (.bo (decide (q.2.1 = q.2.2)), [])
theorem s12 : SoundF P 12 (Cof S12) := s2 (follows_nil noEnv) (noEnv_sound P) mo ok12 mk2_plain mkEv_u mkEv_u (fun _ => rfl) (fun y hy => ⟨noL, fun R hR => run12_00 hR⟩) (fun y l off cap c _ _ _ _ _ => ⟨_, fun R hR => run12_10 hR⟩) (fun y l off cap c _ _ _ _ _ => ⟨_, fun R hR => run12_01 hR⟩)
  fun y l l' off cap c off' cap' c' hok h1 h2 _ _ _ _ _ _ => ⟨_, fun R hR => run12 h1 h2 hok.1 hR⟩
theorem f12_f : FollowsF (t2 3 3 mkEv mkEv unL2 okL2 fun x K => K (.bo (decide (x.2.1 = x.2.2))) []) (Cof S12) := f2 mkEv_len mkEv_len mkEv_inj mkEv_inj mk2_inj unL2_eq fun _ _ h => h
abbrev S13 : Rel := S0 mkS okSt fun s => resL 3 mkEv (decode s.data.toList)
theorem s13 : SoundF P 13 (Cof S13) := s0 EdR_f EdR_s mo ok13 (fun _ => rfl) (fun q => resL_new mkEv_u _) (fun _ => head13) fun s hs R hR => run13 hs hR
theorem f13_f : FollowsF (t0 unStr okSt fun s => outL 3 mkEv (decode s.data.toList)) (Cof S13) := f0 mkS_inj unStr_eq fun _ _ h => outL_spec h
abbrev S14 : Rel := S1 3 mkEv mk1 okLE fun q => resE q.2
theorem s14 : SoundF P 14 (Cof S14) := s1 Ew_f Ew_s mo ok14 mk1_plain mkEv_u (fun q => resE_new _) (fun y hy => ⟨_, fun R hR => run14n hR⟩) fun y l off cap c hok h1 h2 h3 h4 => ⟨_, fun R hR => run14 hok h1 h4 hR⟩
theorem outE_spec {l : List Ev} {K : AV → Hp → Prop} (h : outE (fun l => (enc l).1) (fun l => (enc l).2) ((), l) K) : K (resE l).1 (resE l).2 := by
  obtain ⟨h1, h2⟩ := h
  simp only at h1 h2
  unfold resE
  cases hb : (enc l).1 with
  | nil => simp only; exact h1 ⟨hb⟩
  | cons b bs => simp only; rw [hb] at h2; exact h2 ⟨by simp⟩
theorem f14_f : FollowsF (t1 3 mkEv unL1 okLE (outE (fun l => (enc l).1) (fun l => (enc l).2))) (Cof S14) := f1 mkEv_len mkEv_inj mk1_inj unL1_eq fun _ _ h => outE_spec h
abbrev S15 : Rel := S1 3 mkEv mk1 okLG fun q => (.bo (grE q.2), [])
theorem s15 : SoundF P 15 (Cof S15) := s1 (follows_nil noEnv) (noEnv_sound P) mo ok15 mk1_plain mkEv_u (fun _ => rfl) (fun y hy => ⟨_, fun R hR => run15n hR⟩) fun y l off cap c hok h1 h2 h3 h4 => ⟨_, fun R hR => run15 hok h1 h4 hR⟩
theorem f15_f : FollowsF (t1 3 mkEv unL1 okLG fun x K => K (.bo (grE x.2)) []) (Cof S15) := f1 mkEv_len mkEv_inj mk1_inj unL1_eq fun _ _ h => h
abbrev S16 : Rel := S1 3 mkEv mk1 okLE fun q => (resER q.2, [])
theorem s16 : SoundF P 16 (Cof S16) := s1 Er_f Er_s mo ok16 mk1_plain mkEv_u (fun _ => rfl) (fun y hy => ⟨_, fun R hR => run16n hR⟩) fun y l off cap c hok h1 h2 h3 h4 => ⟨_, fun R hR => run16 hok h1 h4 hR⟩
theorem f16_f : FollowsF (t1 3 mkEv unL1 okLE fun x K => K (.tu [.i .i64 ((enc x.2).1.length : Int), .i .i64 (enc x.2).2]) []) (Cof S16) := f1 mkEv_len mkEv_inj mk1_inj unL1_eq fun _ _ h => h
/-! bytes that are read: a closed statement -/
def WA : FuncId → Nat → Option Road
  | 19, r => W19 r
  | _, _ => none
noncomputable def EA : Env := envN P WA 200 [10, 11, 19, 23, 24, 25, 26] [] noEnv 8
theorem EA_s : Sound P EA := envN_sound (by kernel_rfl) (by kernel_rfl) (noEnv_sound _) _
def isTrueA (r : Option (AV × Hp)) : Bool := match r with
  | some (.bo true, _) => true
  | _ => false
theorem isTrueA_spec {r : Option (AV × Hp)} (h : isTrueA r = true) : ∃ h', r = some (.bo true, h') := by
  unfold isTrueA at h
  split at h
  · exact ⟨_, rfl⟩
  · cases h
set_option maxRecDepth 10000000 in
theorem awakeA : isTrueA (EA 10 [] []) = true := by kernel_rfl
theorem s10 : SoundF P 10 (Cconst (.bo true)) := by
  obtain ⟨h', he⟩ := isTrueA_spec awakeA
  exact SoundF.const EA_s he rfl
noncomputable def EL : Env := with1 10 (Cconst (.bo true)) (with1 11 (Cof S11) (with1 12 (Cof S12) (with1 13 (Cof S13) (with1 14 (Cof S14) (with1 15 (Cof S15) (with1 16 (Cof S16) (with1 17 (Cof (S0 mkE bigOk fun e => (.bo (okE e), []))) (with1 18 (Cof (S0 mkE (fun _ => True) fun e => (.bo (okE e), []))) noEnv))))))))
theorem EL_s : Sound P EL := with1_sound ok10.ok s10 (with1_sound ok11.ok s11 (with1_sound ok12.ok s12 (with1_sound ok13.ok s13 (with1_sound ok14.ok s14 (with1_sound ok15.ok s15 (with1_sound ok16.ok s16 (with1_sound ok17.ok s17 (with1_sound ok18.ok s18 (noEnv_sound P)))))))))
abbrev TLs : TEnv := TL decode (fun s => decode s.data.toList) (fun l m => decide (l = m)) (fun l => (enc l).1) (fun l => (enc l).2) grE (fun l => ((enc l).1.length : Int)) okE
theorem EL_f : Follows TLs EL := follows_cons (follows_const _) (follows_cons f11_f (follows_cons f12_f (follows_cons f13_f (follows_cons f14_f (follows_cons f15_f (follows_cons f16_f (follows_cons f17_f (follows_cons f18_f (follows_nil _)))))))))
end Go.Proofs.Ytnfbgfmdjaodgaa.ScriptRun
