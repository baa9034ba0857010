/- Contracts: a text cut, groups' words, addresses of eight groups. -/
import Derived.Test.YtohaalilplngnaaDoorClassP6
set_option linter.unusedVariables false
set_option linter.unusedSimpArgs false
open Go Go.Proofs.YtohaalilplngnaaDoor.Eng Go.RowKit
namespace Go.Proofs.YtohaalilplngnaaDoor.ClassRun
def cutF (s sep : ByteArray) : ByteArray × ByteArray × Bool := (⟨(Lib.cut s.data.toList sep.data.toList).1.toArray⟩, ⟨(Lib.cut s.data.toList sep.data.toList).2.1.toArray⟩, (Lib.cut s.data.toList sep.data.toList).2.2)
theorem tcut_f : FollowsF (tcut cutF) Ccut := by
  intro args h K hk
  unfold tcut at hk
  split at hk
  · rename_i s sep
    obtain ⟨⟨h1⟩, hk⟩ := hk
    exact ⟨_, _, by unfold Ccut; simp only; rw [if_pos (by omega)], hk _ _ _ ⟨rfl⟩⟩
  · exact hk.elim
def groupsS (s : ByteArray) : Option (List Int) := hexesP (splitU 58 s.data.toList)
abbrev C43 := S0 mkS1 (fun s => s.size ≤ 4096) fun s => resPa (groupsS s)
theorem fn43 : fnOk1 P noW 43 Go.Proofs.Tryd.f43 := ⟨Go.Proofs.Tryd.func43, by kernel_rfl, by kernel_rfl, by kernel_rfl⟩
theorem fn15 : fnOk1 P noW 15 Go.Proofs.Tryd.f15 := ⟨Go.Proofs.Tryd.func15, by kernel_rfl, by kernel_rfl, by kernel_rfl⟩
theorem resPa_new (o : Option (List Int)) : newOk (resPa o).2 = true := by
  match o with
  | none => rfl
  | some [] => rfl
  | some (e :: es) => simp [resPa, newOk, Blk.wrB]; exact unders_map 0 _ (fun _ => rfl) _
set_option maxRecDepth 100000 in
theorem parts_s : SoundF P 43 (Cof C43) := by
  refine s0 (follows_cons tparts_f (follows_cons tdig_f (follows_nil _))) (with1_sound (fnOkB_ok (by kernel_rfl)) split_s (with1_sound fn58.ok digits_s (noEnv_sound _))) mo fn43 (fun _ => rfl) (fun s => resPa_new _) (fun _ => head43) fun s hs R hR => ?_
  exact run43 hs splitP (splitB_parts s 58) R hR
theorem tgroups_f : FollowsF (tgroups groupsS) (Cof C43) := by
  refine follows_of (Sgen.det (form0 mkS1_inj)) fun args h K hk => ?_
  unfold tgroups at hk
  split at hk
  · rename_i s
    obtain ⟨⟨h1⟩, hk⟩ := hk
    rw [lenK_eq] at hk
    obtain ⟨k1, k2, k3⟩ := hk
    refine ⟨_, _, ⟨s, [], rfl, rfl, fun i a d e => by simp at e, h1, rfl, rfl⟩, ?_⟩
    show K (reA (sh h.length) (resPa (groupsS s)).1) (h ++ (resPa (groupsS s)).2)
    generalize groupsS s = o at k1 k2 k3 ⊢
    match o with
    | none =>
      show K (.tu [.sn, .bo false]) (h ++ [])
      rw [List.append_nil]; exact k1 ⟨rfl⟩
    | some [] =>
      show K (.tu [.sn, .bo true]) (h ++ [])
      rw [List.append_nil]; exact k2 ⟨rfl⟩
    | some (x :: l) => exact k3 (x :: l) ⟨rfl, by simp⟩
  · exact hk.elim
theorem hexW_range {w : List UInt8} (h : ¬ hexW w < 0) : 0 ≤ hexW w ∧ hexW w ≤ 65535 := by
  refine ⟨by omega, ?_⟩
  have := dig_hex (s := ofL w) (v := (digS dig16 16 4 (ofL w) 65535).1) (ok := (digS dig16 16 4 (ofL w) 65535).2) rfl
  cases e : (digS dig16 16 4 (ofL w) 65535).2 with
  | false => exact absurd (this.1 e) h
  | true =>
    obtain ⟨h1, h2, h3⟩ := this.2 e
    unfold hexW; omega
theorem all6_b16 : ∀ {ws : List (List UInt8)} {l : List Int}, all6 ws = some l → b16 l
  | [], l, h => by cases h; intro v hv; simp at hv
  | w :: ws, l, h => by
    by_cases g : hexW w < 0
    · rw [all6_bad g] at h; cases h
    · rw [all6_go g] at h
      obtain ⟨x, hx, rfl⟩ := Option.map_eq_some_iff.1 h
      intro v hv
      rcases List.mem_cons.1 hv with rfl | hv
      · exact hexW_range g
      · exact all6_b16 hx v hv
theorem groups_ok {t : ByteArray} {L : List Int} (ht : t.size ≤ 4096) (h : groupsS t = some L) : L.length ≤ 4097 ∧ b16 L := by
  unfold groupsS hexesP at h
  split at h
  · cases h; exact ⟨by decide, fun v hv => by simp at hv⟩
  · refine ⟨?_, all6_b16 h⟩
    rw [all6_len h]
    have := splitU_len 58 t.data.toList
    rw [size_list] at this; omega
theorem p6S_eq (s : ByteArray) : p6S (cutF s ⟨#[58, 58]⟩).2.2 (groupsS (cutF s ⟨#[58, 58]⟩).1) (groupsS (cutF s ⟨#[58, 58]⟩).2.1) = parse6P (splitU 58 s.data.toList) := by
  have e : Lib.cut s.data.toList [58, 58] = _ := cut_gap s.data.toList
  have g := gapAt_cut2 s.data.toList
  unfold cutF parse6P groupsS
  rw [show (⟨#[58, 58]⟩ : ByteArray).data.toList = [58, 58] from rfl, e, g]
  cases cut2 s.data.toList with
  | none =>
    simp only [Option.map_none]
    unfold p6S
    cases hexesP (splitU 58 s.data.toList) with
    | none => rfl
    | some x => simp [splitU, hexesP]
  | some z =>
    obtain ⟨a, b⟩ := z
    simp only [Option.map_some, sp2]
    unfold p6S
    cases hexesP (splitU 58 a) with
    | none => rfl
    | some x =>
      simp only
      cases hexesP (splitU 58 b) with
      | none => rfl
      | some y => rfl
theorem cutF_size (s : ByteArray) : (cutF s ⟨#[58, 58]⟩).1.size ≤ s.size ∧ (cutF s ⟨#[58, 58]⟩).2.1.size ≤ s.size ∧ ((cutF s ⟨#[58, 58]⟩).2.2 = false → groupsS (cutF s ⟨#[58, 58]⟩).2.1 = some []) := by
  have e : Lib.cut s.data.toList [58, 58] = _ := cut_gap s.data.toList
  have g := cut2_eq s.data.toList
  have hl : s.data.toList.length = s.size := size_list s
  unfold cutF
  rw [show (⟨#[58, 58]⟩ : ByteArray).data.toList = [58, 58] from rfl, e]
  have sz (l : List UInt8) : (⟨l.toArray⟩ : ByteArray).size = l.length := by rw [← size_list]
  rcases g with ⟨_, h⟩ | ⟨i, _, h⟩
  · rw [h]
    refine ⟨?_, Nat.zero_le _, fun _ => rfl⟩
    show (⟨s.data.toList.toArray⟩ : ByteArray).size ≤ _
    rw [sz s.data.toList]; omega
  · rw [h]
    refine ⟨?_, ?_, fun h => by cases h⟩
    · show (⟨(s.data.toList.take i).toArray⟩ : ByteArray).size ≤ _
      rw [sz (s.data.toList.take i), List.length_take]; omega
    · show (⟨(s.data.toList.drop (i + 2)).toArray⟩ : ByteArray).size ≤ _
      rw [sz (s.data.toList.drop (i + 2)), List.length_drop]; omega
theorem p6_flat (o : Option (List Int)) : (p6Ans o).under 0 = true := by
  cases o with
  | none => rfl
  | some l =>
    show (AV.unders 0 ((bytes6 l).map (AV.i .u8)) && true) = true
    rw [Bool.and_true]
    exact unders_map 0 _ (fun _ => rfl) _
abbrev CP6 := Splain mkS1 (fun s => s.size ≤ 4096) fun s => p6Ans (parse6P (splitU 58 s.data.toList))
set_option maxRecDepth 100000 in
theorem run15 {s : ByteArray} (hs : s.size ≤ 4096) : RunF P 0 Go.Proofs.Tryd.f15 [.s s] [] fun v _ => v = p6Ans (parse6P (splitU 58 s.data.toList)) := by
  refine runF_of ?_
  rw [← p6S_eq s]
  obtain ⟨z1, z2, z3⟩ := cutF_size s
  have hT : Follows (tcons 42 (tcut cutF) (tcons 43 (tgroups groupsS) tnil)) (with1 42 Ccut (with1 43 (Cof C43) noEnv)) := follows_cons tcut_f (follows_cons tgroups_f (follows_nil _))
  have hΓ : Sound P (with1 42 Ccut (with1 43 (Cof C43) noEnv)) := with1_sound (fnOkB_ok (by kernel_rfl)) cut_s (with1_sound fn43.ok parts_s (noEnv_sound _))
  have ok0 : okL P noW b15 = true := flat_ok fn15.2.2.2
  have nT := follows_nil (with1 42 Ccut (with1 43 (Cof C43) noEnv))
  refine cut_part (W := noW) (cs := b15) (r := 6) hT hΓ mo ok0 (by kernel_rfl) L6 (Z6 _) (run15a hs cutF groupsS rfl (by omega) (by omega) (fun t L => groups_ok) z3) fun q hz => ?_
  have ok6 := ok_tl (P := P) (W := noW) 6 ok0
  have ok8 := ok_tl (P := P) (W := noW) 8 ok6
  have ok10 := ok_tl (P := P) (W := noW) 10 ok8
  have ok14 := ok_tl (P := P) (W := noW) 14 ok10
  generalize p6S (cutF s ⟨#[58, 58]⟩).2.2 (groupsS (cutF s ⟨#[58, 58]⟩).1) (groupsS (cutF s ⟨#[58, 58]⟩).2.1) = o at hz ⊢
  have fin : ∀ q : Nat × List AV, Z8n o q → RunL P 0 (tlC 10 (tlC 8 (tlC 6 b15))) (s10 zeros16 q.1 q.2 0) (finQ P Go.Proofs.Tryd.f15 fun v _ => v = p6Ans o) := by
    rintro q ⟨x, rfl, hl, hb, rfl⟩
    refine cut_part (W := noW) (r := 14) nT hΓ mo ok10 (by kernel_rfl) L14 _ (run15h hl hb _) ?_
    rintro l (rfl : l = bytes6 x)
    exact cut_last (W := noW) (LA := noL) nT hΓ mo ok14 (run15i x)
  have n8 : ∀ q : Nat × List AV, Z8n o q → RunL P 0 (tlC 8 (tlC 6 b15)) (s6sn q) (finQ P Go.Proofs.Tryd.f15 fun v _ => v = p6Ans o) := fun q hz => cut_part (W := noW) (r := 10) nT hΓ mo ok8 (by kernel_rfl) L10 _ (run15f o _ hz) fin
  have s8 : ∀ q : (Nat × List AV) × (Nat × List AV), Z8s o q → RunL P 0 (tlC 8 (tlC 6 b15)) (s6ss q) (finQ P Go.Proofs.Tryd.f15 fun v _ => v = p6Ans o) := fun q hz => cut_part (W := noW) (r := 10) nT hΓ mo ok8 (by kernel_rfl) L10 _ (run15g o _ hz) fin
  match q, hz with
  | .inl (.inl ()), hz => exact cut_part (W := noW) (r := 8) nT hΓ mo ok6 (by kernel_rfl) L8n _ (run15b o _ hz) n8
  | .inl (.inr q), hz => exact cut_part (W := noW) (r := 8) nT hΓ mo ok6 (by kernel_rfl) L8n _ (run15c o _ hz) n8
  | .inr (.inl q), hz => exact cut_part (W := noW) (r := 8) nT hΓ mo ok6 (by kernel_rfl) L8s _ (run15d o _ hz) s8
  | .inr (.inr q), hz => exact cut_part (W := noW) (r := 8) nT hΓ mo ok6 (by kernel_rfl) L8s _ (run15e o _ hz) s8
theorem parse6_s : SoundF P 15 (Cof CP6) := SoundF.plainR fn15 (fun _ => rfl) (fun _ => p6_flat _) fun s hs => ⟨0, run15 hs⟩
end Go.Proofs.YtohaalilplngnaaDoor.ClassRun
