/- The functions' contracts, one behind the other. -/
import Derived.Test.YtjekkpnmpcpgaaaSumLaws
set_option linter.unusedVariables false
set_option linter.unusedSimpArgs false
open Go Go.Proofs.Ytjekkpnmpcpgaaa.Eng Go.RowKit Go.Proofs.Ytjekkpnmpcpgaaa.SumMath
namespace Go.Proofs.Ytjekkpnmpcpgaaa.SumRun
theorem mo : P.follows .mixedOrders = true := by kernel_rfl
theorem ok24 : fnOk1 P noW 24 Go.Proofs.Try.f24 := ⟨Go.Proofs.Try.func24, by kernel_rfl, by kernel_rfl, by kernel_rfl⟩
theorem ok25 : fnOk1 P noW 25 Go.Proofs.Try.f25 := ⟨Go.Proofs.Try.func25, by kernel_rfl, by kernel_rfl, by kernel_rfl⟩
theorem ok13 : fnOk1 P noW 13 Go.Proofs.Try.f13 := ⟨Go.Proofs.Try.func13, by kernel_rfl, by kernel_rfl, by kernel_rfl⟩
theorem ok15 : fnOk1 P noW 15 Go.Proofs.Try.f15 := ⟨Go.Proofs.Try.func15, by kernel_rfl, by kernel_rfl, by kernel_rfl⟩
theorem ok16 : fnOk1 P noW 16 Go.Proofs.Try.f16 := ⟨Go.Proofs.Try.func16, by kernel_rfl, by kernel_rfl, by kernel_rfl⟩
theorem ok17 : fnOk1 P noW 17 Go.Proofs.Try.f17 := ⟨Go.Proofs.Try.func17, by kernel_rfl, by kernel_rfl, by kernel_rfl⟩
theorem ok18 : fnOk1 P noW 18 Go.Proofs.Try.f18 := ⟨Go.Proofs.Try.func18, by kernel_rfl, by kernel_rfl, by kernel_rfl⟩
theorem ok28 : fnOk1 P noW 28 Go.Proofs.Try.f28 := ⟨Go.Proofs.Try.func28, by kernel_rfl, by kernel_rfl, by kernel_rfl⟩
theorem ok26 : fnOk1 P noW 26 Go.Proofs.Try.f26 := ⟨Go.Proofs.Try.func26, by kernel_rfl, by kernel_rfl, by kernel_rfl⟩
theorem ok27 : fnOk1 P noW 27 Go.Proofs.Try.f27 := ⟨Go.Proofs.Try.func27, by kernel_rfl, by kernel_rfl, by kernel_rfl⟩
theorem ok14 : fnOk1 P noW 14 Go.Proofs.Try.f14 := ⟨Go.Proofs.Try.func14, by kernel_rfl, by kernel_rfl, by kernel_rfl⟩
/-! What each answers. -/
def S24 : Rel := Splain (fun n : Int => [.i .i64 n]) (fun n => 0 ≤ n ∧ n ≤ 4611686018427387904) fun n => .i .i64 (F n)
def mk25 (q : Int × Int × ByteArray × Bool) : List AV := [.i .i64 q.1, .i .i64 q.2.1, .s q.2.2.1, .i .u8 (mask q.2.2.2)]
def S25 : Rel := Splain mk25 (fun q => okT q.1 q.2.2.1.size ∧ okA q.2.1 q.2.2.1.size) fun q => .i .i64 (Av q.1 q.2.1 q.2.2.1 (mask q.2.2.2))
theorem f24_f : FollowsF (t24 F) (Cof S24) := by
  refine follows_of (Splain.det fun x y h => by simpa using h) fun args h K hk => ?_
  unfold t24 at hk
  split at hk
  · exact ⟨_, _, ⟨rfl, _, rfl, hk.1.out, rfl⟩, hk.2⟩
  · exact hk.elim
theorem mask_inj {a b : Bool} (h : mask a = mask b) : a = b := by cases a <;> cases b <;> first | rfl | exact absurd h (by decide)
theorem f25_f : FollowsF (t25 Av) (Cof S25) := by
  refine follows_of (Splain.det fun x y h => ?_) fun args h K hk => ?_
  · obtain ⟨a, b, c, d⟩ := x
    obtain ⟨a', b', c', d'⟩ := y
    simp only [mk25, List.cons.injEq, AV.i.injEq, AV.s.injEq, and_true, true_and] at h
    obtain ⟨rfl, rfl, rfl, h⟩ := h
    rw [mask_inj h]
  · unfold t25 at hk
    split at hk
    · rename_i T a s m
      obtain ⟨h1, h2, h3, h4⟩ := hk
      rcases h3.out with rfl | rfl
      · exact ⟨_, _, ⟨rfl, (T, a, s, false), rfl, ⟨h1.out, h2.out⟩, rfl⟩, h4⟩
      · exact ⟨_, _, ⟨rfl, (T, a, s, true), rfl, ⟨h1.out, h2.out⟩, rfl⟩, h4⟩
    · exact hk.elim
theorem s24 : SoundF P 24 (Cof S24) := SoundF.plain (follows_nil noEnv) (noEnv_sound P) mo ok24 (fun _ => rfl) (fun _ => rfl) fun n hn => ⟨head24, 0, run24 hn.1 hn.2⟩
theorem s25 : SoundF P 25 (Cof S25) := SoundF.plain (follows_nil noEnv) (noEnv_sound P) mo ok25 (fun _ => rfl) (fun _ => rfl) fun q hq => ⟨head25 q.2.1 (mask q.2.2.2) q.2.2.1, 0, by
  have := run25 q.2.2.2 hq.1 hq.2
  have e : Av q.1 q.2.1 q.2.2.1 (mask q.2.2.2) = q.1 + ws q.2.2.2 (decide (q.2.1 % 2 = 0)) q.2.2.1.data.toList := by
    unfold Av; cases q.2.2.2 <;> rfl
  rw [e]; exact this⟩
theorem s_inj : ∀ x y : ByteArray, AV.s x = AV.s y → x = y := fun _ _ h => by simpa using h
theorem i_inj : ∀ x y : Int, AV.i .i64 x = AV.i .i64 y → x = y := fun _ _ h => by simpa using h
noncomputable def G1 : Env := with1 24 (Cof S24) (with1 25 (Cof S25) noEnv)
theorem G1_s : Sound P G1 := with1_sound ok24.ok s24 (with1_sound ok25.ok s25 (noEnv_sound P))
theorem G1_f : Follows (tcons 24 (t24 F) (tcons 25 (t25 Av) tnil)) G1 := follows_cons f24_f (follows_cons f25_f (follows_nil _))
abbrev S13 : Rel := Slist .s okL fun l => .i .i64 (Ov l)
theorem s13 : SoundF P 13 (Cof S13) := SoundF.list G1_f G1_s mo ok13 (fun _ => rfl) (fun _ => rfl) (fun _ => ⟨_, 0, run13n⟩) fun off len cap c l h1 h2 h3 => ⟨_, 0, run13 h1 h2 h3⟩
noncomputable def G2 : Env := with1 13 (Cof S13) noEnv
theorem G2_s : Sound P G2 := with1_sound ok13.ok s13 (noEnv_sound P)
theorem G2_f : Follows (tcons 13 (tlist .s okL fun l => .i .i64 (Ov l)) tnil) G2 := follows_cons (tlist_follows s_inj) (follows_nil _)
abbrev S15 : Rel := Slist .s okL fun l => .bo (Rv l)
theorem s15 : SoundF P 15 (Cof S15) := SoundF.list G2_f G2_s mo ok15 (fun _ => rfl) (fun _ => rfl) (fun _ => ⟨_, 0, run15n⟩) fun off len cap c l h1 h2 h3 => ⟨_, 0, run15 h1 h2 h3⟩
def S16 : Rel := Splain (fun n : Int => [.i .i64 n]) rngW fun n => .s (Tv n)
theorem f16_f : FollowsF (t16 Tv) (Cof S16) := by
  refine follows_of (Splain.det fun x y h => by simpa using h) fun args h K hk => ?_
  unfold t16 at hk
  split at hk
  · exact ⟨_, _, ⟨rfl, _, rfl, hk.1.out, rfl⟩, hk.2⟩
  · exact hk.elim
theorem s16 : SoundF P 16 (Cof S16) := SoundF.plain (follows_nil noEnv) (noEnv_sound P) mo ok16 (fun _ => rfl) (fun _ => rfl) fun n hn => ⟨noL, 0, run16 n⟩
abbrev Sstr (ok : ByteArray → Prop) (r : ByteArray → AV) : Rel := Splain (fun s : ByteArray => [.s s]) ok r
theorem tstr_f {ok : ByteArray → Prop} {r : ByteArray → AV} : FollowsF (tstr ok r) (Cof (Sstr ok r)) := by
  refine follows_of (Splain.det fun x y h => by simpa using h) fun args h K hk => ?_
  unfold tstr at hk
  split at hk
  · exact ⟨_, _, ⟨rfl, _, rfl, hk.1.out, rfl⟩, hk.2⟩
  · exact hk.elim
theorem s17 : SoundF P 17 (Cof (Sstr smallS fun s => .bo (Zv s))) := SoundF.plain (follows_nil noEnv) (noEnv_sound P) mo ok17 (fun _ => rfl) (fun _ => rfl) fun s hs => ⟨_, 0, run17 hs⟩
theorem s28 : SoundF P 28 (Cof (Sstr smallS fun s => .s (Ev s))) := SoundF.plain (follows_nil noEnv) (noEnv_sound P) mo ok28 (fun _ => rfl) (fun _ => rfl) fun s hs => ⟨_, 0, run28 hs⟩
noncomputable def G3 : Env := with1 24 (Cof S24) (with1 25 (Cof S25) (with1 28 (Cof (Sstr smallS fun s => .s (Ev s))) noEnv))
theorem G3_s : Sound P G3 := with1_sound ok24.ok s24 (with1_sound ok25.ok s25 (with1_sound ok28.ok s28 (noEnv_sound P)))
theorem G3_f : Follows (tcons 24 (t24 F) (tcons 25 (t25 Av) (tcons 28 (tstr smallS fun s => .s (Ev s)) tnil))) G3 := follows_cons f24_f (follows_cons f25_f (follows_cons tstr_f (follows_nil _)))
def S18 : Rel := Splain (fun q : Int × ByteArray × ByteArray => [.i .i64 q.1, .s q.2.1, .s q.2.2]) (fun q => smallS q.2.1 ∧ smallS q.2.2) fun q => .i .i64 (Uv q.1 q.2.1 q.2.2)
theorem f18_f : FollowsF (t18 Uv) (Cof S18) := by
  refine follows_of (Splain.det fun x y h => ?_) fun args h K hk => ?_
  · obtain ⟨a, b, c⟩ := x
    obtain ⟨a', b', c'⟩ := y
    simp only [List.cons.injEq, AV.i.injEq, AV.s.injEq, and_true, true_and] at h
    obtain ⟨rfl, rfl, rfl⟩ := h
    rfl
  · unfold t18 at hk
    split at hk
    · rename_i n a b
      exact ⟨_, _, ⟨rfl, (n, a, b), rfl, ⟨hk.1.out, hk.2.1.out⟩, rfl⟩, hk.2.2⟩
    · exact hk.elim
theorem s18 : SoundF P 18 (Cof S18) := SoundF.plain G3_f G3_s mo ok18 (fun _ => rfl) (fun _ => rfl) fun q hq => ⟨noL, 0, run18 hq.1 hq.2⟩
abbrev S26 : Rel := Slist (.i .i64) okI fun l => .i .i64 (F (isum l))
theorem s26 : SoundF P 26 (Cof S26) := SoundF.list (follows_nil noEnv) (noEnv_sound P) mo ok26 (fun _ => rfl) (fun _ => rfl) (fun _ => ⟨_, 0, run26n⟩) fun off len cap c l h1 h2 h3 => ⟨_, 0, run26 h1 h2 h3⟩
def S27 : Rel := Smake (fun s : ByteArray => [.s s]) (fun s => s.size ≤ 1073741824) (fun n : Int => .i .i64 n) Wv
theorem f27_f : FollowsF (t27 Wv) (Cof S27) := by
  refine follows_of (Smake.det fun x y h => by simpa using h) fun args h K hk => ?_
  unfold t27 at hk
  split at hk
  · rename_i s
    obtain ⟨h1, h2, h3⟩ := hk
    by_cases c : Wv s = []
    · exact ⟨_, _, ⟨s, rfl, h1.out, .inl ⟨c, rfl, rfl⟩⟩, h2 ⟨c⟩⟩
    · exact ⟨_, _, ⟨s, rfl, h1.out, .inr ⟨c, rfl, rfl⟩⟩, h3 ⟨c⟩⟩
  · exact hk.elim
theorem s27 : SoundF P 27 (Cof S27) := SoundF.make (follows_nil noEnv) (noEnv_sound P) mo ok27 (fun _ => rfl) (fun _ => rfl) fun s hs R h0 h1 => ⟨_, run27 hs h0 h1⟩
noncomputable def G4 : Env := with1 27 (Cof S27) (with1 26 (Cof S26) noEnv)
theorem G4_s : Sound P G4 := with1_sound ok27.ok s27 (with1_sound ok26.ok s26 (noEnv_sound P))
theorem G4_f : Follows (tcons 27 (t27 Wv) (tcons 26 (tlist (.i .i64) okI fun l => .i .i64 (F (isum l))) tnil)) G4 := follows_cons f27_f (follows_cons (tlist_follows i_inj) (follows_nil _))
theorem s14 : SoundF P 14 (Cof (Sstr smallS fun s => .i .i64 (Qv s))) := SoundF.plain G4_f G4_s mo ok14 (fun _ => rfl) (fun _ => rfl) fun s hs => ⟨_, 0, run14 hs⟩
/-! awake: by its run -/
noncomputable def G0 : Env := envN P (fun _ => noW) 200 [12, 13, 15, 24, 25] [] noEnv 6
theorem G0_s : Sound P G0 := envN_sound (by kernel_rfl) (by kernel_rfl) (noEnv_sound _) _
def isTrue (r : Option (AV × Hp)) : Bool := match r with
  | some (.bo true, _) => true
  | _ => false
theorem isTrue_spec {r : Option (AV × Hp)} (h : isTrue r = true) : ∃ h', r = some (.bo true, h') := by
  unfold isTrue at h
  split at h
  · exact ⟨_, rfl⟩
  · cases h
theorem woke : isTrue (G0 12 [] []) = true := by kernel_rfl
theorem s12 : SoundF P 12 (Cconst (.bo true)) := by
  obtain ⟨h', he⟩ := isTrue_spec woke
  exact SoundF.const G0_s he rfl
theorem ok12 : fnOk1 P noW 12 Go.Proofs.Try.f12 := ⟨Go.Proofs.Try.func12, by kernel_rfl, by kernel_rfl, by kernel_rfl⟩
/-! The laws' surroundings. -/
noncomputable def GG : Env := with1 12 (Cconst (.bo true)) (with1 13 (Cof S13) (with1 15 (Cof S15) (with1 17 (Cof (Sstr smallS fun s => .bo (Zv s))) (with1 16 (Cof S16) (with1 18 (Cof S18) (with1 14 (Cof (Sstr smallS fun s => .i .i64 (Qv s))) noEnv))))))
theorem GG_s : Sound P GG := with1_sound ok12.ok s12 (with1_sound ok13.ok s13 (with1_sound ok15.ok s15 (with1_sound ok17.ok s17 (with1_sound ok16.ok s16 (with1_sound ok18.ok s18 (with1_sound ok14.ok s14 (noEnv_sound P)))))))
theorem GG_f : Follows TT GG := follows_cons (follows_const _) (follows_cons (tlist_follows s_inj) (follows_cons (tlist_follows s_inj) (follows_cons tstr_f (follows_cons f16_f (follows_cons f18_f (follows_cons tstr_f (follows_nil _)))))))
end Go.Proofs.Ytjekkpnmpcpgaaa.SumRun
