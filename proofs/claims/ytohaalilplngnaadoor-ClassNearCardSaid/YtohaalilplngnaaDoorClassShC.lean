/- The shorter prefixes' contracts. -/
import Derived.Test.YtohaalilplngnaaDoorClassSh
set_option linter.unusedVariables false
set_option linter.unusedSimpArgs false
open Go Go.Proofs.YtohaalilplngnaaDoor.Eng Go.RowKit
namespace Go.Proofs.YtohaalilplngnaaDoor.ClassRun
def mkCut (q : List Int × Int) : List AV := [.ag (q.1.map (AV.i .u8)), .i .i64 q.2]
def cutA (q : List Int × Int) : AV := .ag ((cutL q.1 q.2).map (AV.i .u8) ++ [.i .i64 q.2])
theorem mkCut_inj (x y : List Int × Int) (h : mkCut x = mkCut y) : x = y := by
  obtain ⟨a, n⟩ := x; obtain ⟨b, m⟩ := y
  simp only [mkCut, List.cons.injEq, AV.ag.injEq, AV.i.injEq, true_and, and_true] at h
  rw [map_u8_inj h.1, h.2]
theorem mkCut_u (q : List Int × Int) : AV.unders 0 (mkCut q) = true := by
  show AV.unders 0 [.ag (q.1.map (AV.i .u8)), .i .i64 q.2] = true
  simp only [AV.unders, AV.under, Bool.and_true]
  exact unders_map 0 _ (fun _ => rfl) _
theorem cutA_u (q : List Int × Int) : (cutA q).under 0 = true := by
  show AV.under 0 (.ag ((cutL q.1 q.2).map (AV.i .u8) ++ [.i .i64 q.2])) = true
  simp only [AV.unders, AV.under, unders_append, Bool.and_true]
  exact unders_map 0 _ (fun _ => rfl) _
theorem tcut16_f : FollowsF (tcut16 cutL) (Cof (Splain mkCut (fun q => okb q.1 ∧ q.1.length = 16 ∧ 0 ≤ q.2 ∧ q.2 ≤ 128) cutA)) := by
  refine follows_of (Splain.det mkCut_inj) fun args h K hk => ?_
  unfold tcut16 at hk
  split at hk
  · rename_i p0 p1 p2 p3 p4 p5 p6 p7 p8 p9 p10 p11 p12 p13 p14 p15 n
    obtain ⟨⟨k1, k2, k3⟩, hk⟩ := hk
    have hl := cutL_len [p0, p1, p2, p3, p4, p5, p6, p7, p8, p9, p10, p11, p12, p13, p14, p15] n
    match e : cutL [p0, p1, p2, p3, p4, p5, p6, p7, p8, p9, p10, p11, p12, p13, p14, p15] n, hl with
    | [c0, c1, c2, c3, c4, c5, c6, c7, c8, c9, c10, c11, c12, c13, c14, c15], _ =>
      refine ⟨_, _, ⟨rfl, ([p0, p1, p2, p3, p4, p5, p6, p7, p8, p9, p10, p11, p12, p13, p14, p15], n), rfl, ⟨k1, rfl, k2, k3⟩, rfl⟩, ?_⟩
      have := hk c0 c1 c2 c3 c4 c5 c6 c7 c8 c9 c10 c11 c12 c13 c14 c15 ⟨e⟩
      rw [cutA, e]
      exact this
  · exact hk.elim
theorem tnetV16_f {B : List Int → Int → List Int → Bool} : FollowsF (tnetV16 B) (Cof (Splain mkNetA (fun q => okb q.1 ∧ q.1.length = 16 ∧ okb q.2.2 ∧ q.2.2.length = 16) fun q => .bo (B q.1 q.2.1 q.2.2))) := by
  refine follows_of (Splain.det mkNetA_inj) fun args h K hk => ?_
  unfold tnetV16 at hk
  split at hk
  · rename_i p0 p1 p2 p3 p4 p5 p6 p7 p8 p9 p10 p11 p12 p13 p14 p15 n x0 x1 x2 x3 x4 x5 x6 x7 x8 x9 x10 x11 x12 x13 x14 x15
    obtain ⟨⟨k1, k2⟩, hk⟩ := hk
    exact ⟨_, _, ⟨rfl, ([p0, p1, p2, p3, p4, p5, p6, p7, p8, p9, p10, p11, p12, p13, p14, p15], n, [x0, x1, x2, x3, x4, x5, x6, x7, x8, x9, x10, x11, x12, x13, x14, x15]), rfl, ⟨k1, rfl, k2, rfl⟩, rfl⟩, hk _ ⟨rfl⟩⟩
  · exact hk.elim
theorem fn21 : fnOk1 P noW 21 Go.Proofs.Tryd.f21 := ⟨Go.Proofs.Tryd.func21, by kernel_rfl, by kernel_rfl, by kernel_rfl⟩
theorem cells16 {z : List Int} {n : Int} (h : z.length = 16) : AV.ag (z.map (AV.i .u8) ++ [.i .i64 n]) = .ag [.i .u8 (z.getD 0 0), .i .u8 (z.getD 1 0), .i .u8 (z.getD 2 0), .i .u8 (z.getD 3 0), .i .u8 (z.getD 4 0), .i .u8 (z.getD 5 0), .i .u8 (z.getD 6 0), .i .u8 (z.getD 7 0), .i .u8 (z.getD 8 0), .i .u8 (z.getD 9 0), .i .u8 (z.getD 10 0), .i .u8 (z.getD 11 0), .i .u8 (z.getD 12 0), .i .u8 (z.getD 13 0), .i .u8 (z.getD 14 0), .i .u8 (z.getD 15 0), .i .i64 n] := by
  match z, h with
  | [c0, c1, c2, c3, c4, c5, c6, c7, c8, c9, c10, c11, c12, c13, c14, c15], _ => rfl
theorem h21 (q : List Int × Int) (hq : okb q.1 ∧ q.1.length = 16 ∧ 0 ≤ q.2 ∧ q.2 ≤ 128) : Holds (wpFn P tnil noW (head21 q.2) 0 Go.Proofs.Tryd.f21 (mkCut q) [] fun v _ => v = cutA q) := by
  obtain ⟨l, n⟩ := q
  obtain ⟨hk, hl, h0, h1⟩ := hq
  match l, hl with
  | [p0, p1, p2, p3, p4, p5, p6, p7, p8, p9, p10, p11, p12, p13, p14, p15], _ =>
    show Holds (wpFn P tnil noW (head21 n) 0 Go.Proofs.Tryd.f21 (mkCut ([p0, p1, p2, p3, p4, p5, p6, p7, p8, p9, p10, p11, p12, p13, p14, p15], n)) [] fun v _ => v = .ag ((cutL [p0, p1, p2, p3, p4, p5, p6, p7, p8, p9, p10, p11, p12, p13, p14, p15] n).map (AV.i .u8) ++ [AV.i .i64 n]))
    rw [cells16 (cutL_len [p0, p1, p2, p3, p4, p5, p6, p7, p8, p9, p10, p11, p12, p13, p14, p15] n)]
    exact run21 hk h0 h1
set_option maxRecDepth 100000 in
theorem cut21_s : SoundF P 21 (Cof (Splain mkCut (fun q => okb q.1 ∧ q.1.length = 16 ∧ 0 ≤ q.2 ∧ q.2 ≤ 128) cutA)) :=
  SoundF.plain (follows_nil _) (noEnv_sound _) mo fn21 mkCut_u cutA_u fun q hq => ⟨head21 q.2, 0, (h21 q hq).out⟩
theorem tcut4_f : FollowsF (tcut4 cutL) (Cof (Splain mkCut (fun q => okb q.1 ∧ q.1.length = 4 ∧ 0 ≤ q.2 ∧ q.2 ≤ 32) cutA)) := by
  refine follows_of (Splain.det mkCut_inj) fun args h K hk => ?_
  unfold tcut4 at hk
  split at hk
  · rename_i p0 p1 p2 p3 n
    obtain ⟨⟨k1, k2, k3⟩, hk⟩ := hk
    have hl := cutL_len [p0, p1, p2, p3] n
    match e : cutL [p0, p1, p2, p3] n, hl with
    | [c0, c1, c2, c3], _ =>
      refine ⟨_, _, ⟨rfl, ([p0, p1, p2, p3], n), rfl, ⟨k1, rfl, k2, k3⟩, rfl⟩, ?_⟩
      have := hk c0 c1 c2 c3 ⟨e⟩
      rw [cutA, e]
      exact this
  · exact hk.elim
theorem tnetV4_f {B : List Int → Int → List Int → Bool} : FollowsF (tnetV4 B) (Cof (Splain mkNetA (fun q => okb q.1 ∧ q.1.length = 4 ∧ okb q.2.2 ∧ q.2.2.length = 4) fun q => .bo (B q.1 q.2.1 q.2.2))) := by
  refine follows_of (Splain.det mkNetA_inj) fun args h K hk => ?_
  unfold tnetV4 at hk
  split at hk
  · rename_i p0 p1 p2 p3 n x0 x1 x2 x3
    obtain ⟨⟨k1, k2⟩, hk⟩ := hk
    exact ⟨_, _, ⟨rfl, ([p0, p1, p2, p3], n, [x0, x1, x2, x3]), rfl, ⟨k1, rfl, k2, rfl⟩, rfl⟩, hk _ ⟨rfl⟩⟩
  · exact hk.elim
theorem fn23 : fnOk1 P noW 23 Go.Proofs.Tryd.f23 := ⟨Go.Proofs.Tryd.func23, by kernel_rfl, by kernel_rfl, by kernel_rfl⟩
theorem cells4 {z : List Int} {n : Int} (h : z.length = 4) : AV.ag (z.map (AV.i .u8) ++ [.i .i64 n]) = .ag [.i .u8 (z.getD 0 0), .i .u8 (z.getD 1 0), .i .u8 (z.getD 2 0), .i .u8 (z.getD 3 0), .i .i64 n] := by
  match z, h with
  | [c0, c1, c2, c3], _ => rfl
theorem h23 (q : List Int × Int) (hq : okb q.1 ∧ q.1.length = 4 ∧ 0 ≤ q.2 ∧ q.2 ≤ 32) : Holds (wpFn P tnil noW (head23 q.2) 0 Go.Proofs.Tryd.f23 (mkCut q) [] fun v _ => v = cutA q) := by
  obtain ⟨l, n⟩ := q
  obtain ⟨hk, hl, h0, h1⟩ := hq
  match l, hl with
  | [p0, p1, p2, p3], _ =>
    show Holds (wpFn P tnil noW (head23 n) 0 Go.Proofs.Tryd.f23 (mkCut ([p0, p1, p2, p3], n)) [] fun v _ => v = .ag ((cutL [p0, p1, p2, p3] n).map (AV.i .u8) ++ [AV.i .i64 n]))
    rw [cells4 (cutL_len [p0, p1, p2, p3] n)]
    exact run23 hk h0 h1
set_option maxRecDepth 100000 in
theorem cut23_s : SoundF P 23 (Cof (Splain mkCut (fun q => okb q.1 ∧ q.1.length = 4 ∧ 0 ≤ q.2 ∧ q.2 ≤ 32) cutA)) :=
  SoundF.plain (follows_nil _) (noEnv_sound _) mo fn23 mkCut_u cutA_u fun q hq => ⟨head23 q.2, 0, (h23 q hq).out⟩
theorem fn5 : fnOk1 P W5 5 Go.Proofs.Tryd.f5 := ⟨Go.Proofs.Tryd.func5, by kernel_rfl, by kernel_rfl, by kernel_rfl⟩
abbrev CH20 : List AV → Hp → AV → Hp → Prop := Splain mkNetA (fun q => okb q.1 ∧ q.1.length = 16 ∧ okb q.2.2 ∧ q.2.2.length = 16) fun q => .bo (Hn 128 q.1 q.2.1 q.2.2)
abbrev CH22 : List AV → Hp → AV → Hp → Prop := Splain mkNetA (fun q => okb q.1 ∧ q.1.length = 4 ∧ okb q.2.2 ∧ q.2.2.length = 4) fun q => .bo (Hn 32 q.1 q.2.1 q.2.2)
theorem hold20_s : SoundF P 20 (Cof CH20) := holds20_s
theorem hold22_s : SoundF P 22 (Cof CH22) := holds22_s
noncomputable abbrev ΓSh : Env := with1 12 (Cconst (.bo true)) (with1 20 (Cof CH20) (with1 22 (Cof CH22) (with1 21 (Cof (Splain mkCut (fun q => okb q.1 ∧ q.1.length = 16 ∧ 0 ≤ q.2 ∧ q.2 ≤ 128) cutA)) (with1 23 (Cof (Splain mkCut (fun q => okb q.1 ∧ q.1.length = 4 ∧ 0 ≤ q.2 ∧ q.2 ≤ 32) cutA)) noEnv))))
theorem ΓSh_s : Sound P ΓSh := with1_sound (fnOkB_ok (by kernel_rfl)) awake_s (with1_sound fn20.ok hold20_s (with1_sound fn22.ok hold22_s (with1_sound fn21.ok cut21_s (with1_sound fn23.ok cut23_s (noEnv_sound _)))))
theorem ΓSh_f : Follows (TSh cutL cutL (Hn 128) (Hn 32)) ΓSh := follows_cons (follows_const _) (follows_cons tnetV16_f (follows_cons tnetV4_f (follows_cons tcut16_f (follows_cons tcut4_f (follows_nil _)))))
