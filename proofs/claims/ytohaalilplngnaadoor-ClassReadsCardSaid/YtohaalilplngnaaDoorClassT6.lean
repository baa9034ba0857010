/- The contract of the document's Parse6. -/
import Derived.Test.YtohaalilplngnaaDoorClassR6
set_option linter.unusedVariables false
set_option linter.unusedSimpArgs false
open Go Go.Proofs.YtohaalilplngnaaDoor.Eng Go.RowKit
namespace Go.Proofs.YtohaalilplngnaaDoor.ClassRun
theorem thex_f : FollowsF (thex hexS) (Cof C53) := by
  refine follows_of (Splain.det mkS1_inj) fun args h K hk => ?_
  unfold thex at hk
  split at hk
  · rename_i s
    exact ⟨_, _, ⟨rfl, s, rfl, trivial, rfl⟩, hk _ ⟨rfl⟩⟩
  · exact hk.elim
theorem fn28 : fnOk1 P noW 28 Go.Proofs.Tryd.f28 := ⟨Go.Proofs.Tryd.func28, by kernel_rfl, by kernel_rfl, by kernel_rfl⟩
set_option maxRecDepth 100000 in
theorem run28 {s : ByteArray} (hs : s.size ≤ 4096) : RunF P 0 Go.Proofs.Tryd.f28 [.s s] [] fun v _ => v = p6Ans (parse6P (splitU 58 s.data.toList)) := by
  refine runF_of ?_
  rw [← ref6_eq (splitU_ne 58 s.data.toList)]
  have hT : Follows (tcons 53 (thex hexS) tnil) (with1 53 (Cof C53) noEnv) := follows_cons thex_f (follows_nil _)
  have hΓ : Sound P (with1 53 (Cof C53) noEnv) := with1_sound fn53.ok hex_s (noEnv_sound _)
  have nT := follows_nil (with1 53 (Cof C53) noEnv)
  have ok0 : okL P noW b28 = true := flat_ok fn28.2.2.2
  have ok8 := ok_tl (P := P) (W := noW) 8 ok0
  have ok25 := ok_tl (P := P) (W := noW) 25 ok8
  have ok28 := ok_tl (P := P) (W := noW) 28 ok25
  have ok35 := ok_tl (P := P) (W := noW) 35 ok28
  refine cut_part (W := noW) (cs := b28) (r := 8) nT hΓ mo ok0 (by kernel_rfl) (M8 s) (Z8 s _) (run28a s _) ?_
  rintro q ⟨k0, g0, hk0, hT0, hg0, rfl⟩
  generalize refP (splitU 58 s.data.toList) = T at hT0 ⊢
  have hR : ∀ (_ : ref6 T = none) (h : Hp), AV.tu [.ag zeros16, .bo false] = p6Ans (ref6 T) := fun e h => by rw [e]; rfl
  have fin : ∀ l, Z35 T l → RunL P 0 (tlC 35 (tlC 28 (tlC 25 (tlC 8 b28)))) (t35 l) (finQ P Go.Proofs.Tryd.f28 fun v _ => v = p6Ans (ref6 T)) := by
    rintro l ⟨gs, e, rfl⟩
    rw [e]
    exact cut_last (W := noW) (LA := noL) nT hΓ mo ok35 (run28g gs)
  refine cut_part (W := noW) (r := 25) hT hΓ mo ok8 (by kernel_rfl) M25 (Z25 T) (run28b hs hk0 hT0 hg0 _ fun e h => hR (by rw [e]; rfl) h) fun q hz => ?_
  match q, hz with
  | .inl a, hz => exact cut_part (W := noW) (r := 28) nT hΓ mo ok25 (by kernel_rfl) M28n (Z28n T) (run28c _ hR hz) fun q hz => cut_part (W := noW) (r := 35) nT hΓ mo ok28 (by kernel_rfl) M35 (Z35 T) (run28e hz _) fin
  | .inr a, hz => exact cut_part (W := noW) (r := 28) nT hΓ mo ok25 (by kernel_rfl) M28s (Z28s T) (run28d _ hR hz) fun q hz => cut_part (W := noW) (r := 35) nT hΓ mo ok28 (by kernel_rfl) M35 (Z35 T) (run28f hz _) fin
theorem parse6R_s : SoundF P 28 (Cof CP6) := SoundF.plainR fn28 (fun _ => rfl) (fun _ => p6_flat _) fun s hs => ⟨0, run28 hs⟩
end Go.Proofs.YtohaalilplngnaaDoor.ClassRun
