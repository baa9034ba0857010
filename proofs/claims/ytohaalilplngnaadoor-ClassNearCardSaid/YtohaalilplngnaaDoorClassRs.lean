/- The document's Holds4 and Holds6, by contract. -/
import Derived.Test.YtohaalilplngnaaDoorClassRr
set_option linter.unusedVariables false
set_option linter.unusedSimpArgs false
open Go Go.Proofs.YtohaalilplngnaaDoor.Eng Go.RowKit
namespace Go.Proofs.YtohaalilplngnaaDoor.ClassRun
def Hr (x y : List Int) (n : Int) : Bool := Hn (8 * x.length) x n y
inductive Sholdr (B : List Int → List Int → Int → Bool) : List AV → Hp → AV → Hp → Prop
  | mk {h : Hp} {ia oa la ib ob lb : Nat} {ca cb : Option Nat} {n : Int} {c d : List AV} {wr wr' : Bool} {x y : List Int} (e : h.getD ia .dead = .cells c wr) (f : h.getD ib .dead = .cells d wr') (hx : numsOf ((c.drop oa).take la) = some x) (hy : numsOf ((d.drop ob).take lb) = some y)
      (hk : okb x ∧ okb y ∧ x.length = la ∧ y.length = la ∧ lb = la ∧ la ≤ 16 ∧ ia ≠ ib) : Sholdr B [.sl ia oa la 1 ca, .sl ib ob lb 1 cb, .i .i64 n] h (.bo (B x y n)) h
theorem Sholdr.det {B : List Int → List Int → Int → Bool} : Det (Sholdr B) := by
  intro args h r h' r2 h2 x y
  cases x with
  | mk e f hx hy hk => cases y with
    | mk e' f' hx' hy' hk' => rw [e] at e'; cases e'; rw [f] at f'; cases f'; rw [hx] at hx'; cases hx'; rw [hy] at hy'; cases hy'; exact ⟨rfl, rfl⟩
theorem tholdr_f {B : List Int → List Int → Int → Bool} : FollowsF (tholdr B) (Cof (Sholdr B)) := by
  refine follows_of Sholdr.det fun args h K hk => ?_
  unfold tholdr at hk
  split at hk
  · split at hk
    · rename_i e f
      obtain ⟨x, hx, hk⟩ := optQ_spec hk
      obtain ⟨y, hy, h1, h2⟩ := optQ_spec hk
      exact ⟨_, _, .mk e f hx hy h1.out, h2⟩
    · exact hk.elim
  · exact hk.elim
theorem fn55 : fnOk1 P noW 55 Go.Proofs.Tryd.f55 := ⟨Go.Proofs.Tryd.func55, by kernel_rfl, by kernel_rfl, by kernel_rfl⟩
theorem fn69 : fnOk1 P noW 69 Go.Proofs.Tryd.f69 := ⟨Go.Proofs.Tryd.func69, by kernel_rfl, by kernel_rfl, by kernel_rfl⟩
set_option maxRecDepth 100000 in
theorem hr55_s : SoundF P 55 (Cof (Sholdr Hr)) := by
  refine SoundF.flat (follows_cons (tinl_f (follows_nil _) fn69) (follows_nil _)) (with1_sound fn69.ok (inl_s (noEnv_sound _) mo fn69) (noEnv_sound _)) mo fn55 fun args h r h' he => ?_
  have hx := Cof_spec he
  cases hx with
  | @mk _ ia oa la ib ob lb ca cb n c d wr wr' x y e f hx hy hk =>
    have e := getD_cells e
    have f := getD_cells f
    have hc := numsOf_eq hx
    have hd := numsOf_eq hy
    obtain ⟨k1, k2, k3, k4, rfl, k6, k9⟩ := hk
    refine ⟨rfl, rfl, [ia, ib], head55 oa ob lb lb ca cb n (rens [ia, ib] c) (rens [ia, ib] d), 2, by simpa using ⟨(List.getElem?_eq_some_iff.1 e).1, (List.getElem?_eq_some_iff.1 f).1⟩, ?_⟩
    rw [show rens [ia, ib] [.sl ia oa lb 1 ca, .sl ib ob lb 1 cb, .i .i64 n] = [.sl 0 oa lb 1 ca, .sl 1 ob lb 1 cb, .i .i64 n] from by simp [rens, ren, posOf, k9], show pickH h [ia, ib] = [.cells (rens [ia, ib] c) false, .cells (rens [ia, ib] d) false] from by simp [pickH, renB, e, f], show Hr x y n = Hn (8 * lb) x n y from by rw [Hr, k3]]
    exact run55 k3 rfl k4 k6 k1 k2 (fun i hi => rens_cell (cell_at hc k3 hi)) (fun i hi => rens_cell (cell_at hd k4 hi))
theorem run34 {p0 p1 p2 p3 p4 p5 p6 p7 p8 p9 p10 p11 p12 p13 p14 p15 n x0 x1 x2 x3 x4 x5 x6 x7 x8 x9 x10 x11 x12 x13 x14 x15 : Int} (hk : okb [p0, p1, p2, p3, p4, p5, p6, p7, p8, p9, p10, p11, p12, p13, p14, p15]) (hx : okb [x0, x1, x2, x3, x4, x5, x6, x7, x8, x9, x10, x11, x12, x13, x14, x15]) : Holds (wpFn P (tcons 55 (tholdr Hr) tnil) noW noL 0 Go.Proofs.Tryd.f34 [.ag [.i .u8 p0, .i .u8 p1, .i .u8 p2, .i .u8 p3, .i .u8 p4, .i .u8 p5, .i .u8 p6, .i .u8 p7, .i .u8 p8, .i .u8 p9, .i .u8 p10, .i .u8 p11, .i .u8 p12, .i .u8 p13, .i .u8 p14, .i .u8 p15, .i .i64 n], .ag [.i .u8 x0, .i .u8 x1, .i .u8 x2, .i .u8 x3, .i .u8 x4, .i .u8 x5, .i .u8 x6, .i .u8 x7, .i .u8 x8, .i .u8 x9, .i .u8 x10, .i .u8 x11, .i .u8 x12, .i .u8 x13, .i .u8 x14, .i .u8 x15]] [] fun v _ => v = .bo (Hn 128 [p0, p1, p2, p3, p4, p5, p6, p7, p8, p9, p10, p11, p12, p13, p14, p15] n [x0, x1, x2, x3, x4, x5, x6, x7, x8, x9, x10, x11, x12, x13, x14, x15])) := by
  refine ⟨?_⟩
  rw [vc34]
  exact ⟨n, ⟨rfl⟩, ⟨⟨hk, hx, rfl, rfl, rfl, by decide, by decide⟩⟩, rfl⟩
theorem fn34 : fnOk1 P noW 34 Go.Proofs.Tryd.f34 := ⟨Go.Proofs.Tryd.func34, by kernel_rfl, by kernel_rfl, by kernel_rfl⟩
set_option maxRecDepth 100000 in
theorem hold34_s : SoundF P 34 (Cof (Splain mkNetA (fun q => okb q.1 ∧ q.1.length = 16 ∧ okb q.2.2 ∧ q.2.2.length = 16) fun q => .bo (Hn 128 q.1 q.2.1 q.2.2))) := by
  refine SoundF.plainH (follows_cons tholdr_f (follows_nil _)) (with1_sound fn55.ok hr55_s (noEnv_sound _)) mo fn34 (fun q => ?_) (fun _ => rfl) noL ?_
  · show AV.unders 0 [.ag (q.1.map (AV.i .u8) ++ [.i .i64 q.2.1]), .ag (q.2.2.map (AV.i .u8))] = true
    simp only [AV.unders, AV.under, unders_append, Bool.and_true, Bool.and_eq_true]
    exact ⟨unders_map 0 _ (fun _ => rfl) _, unders_map 0 _ (fun _ => rfl) _⟩
  · rintro ⟨l, n, a⟩ ⟨hk, hl, hx, ha⟩
    match l, hl, a, ha with
    | [p0, p1, p2, p3, p4, p5, p6, p7, p8, p9, p10, p11, p12, p13, p14, p15], _, [x0, x1, x2, x3, x4, x5, x6, x7, x8, x9, x10, x11, x12, x13, x14, x15], _ => exact run34 hk hx
theorem run33 {p0 p1 p2 p3 n x0 x1 x2 x3 : Int} (hk : okb [p0, p1, p2, p3]) (hx : okb [x0, x1, x2, x3]) : Holds (wpFn P (tcons 55 (tholdr Hr) tnil) noW noL 0 Go.Proofs.Tryd.f33 [.ag [.i .u8 p0, .i .u8 p1, .i .u8 p2, .i .u8 p3, .i .i64 n], .ag [.i .u8 x0, .i .u8 x1, .i .u8 x2, .i .u8 x3]] [] fun v _ => v = .bo (Hn 32 [p0, p1, p2, p3] n [x0, x1, x2, x3])) := by
  refine ⟨?_⟩
  rw [vc33]
  exact ⟨n, ⟨rfl⟩, ⟨⟨hk, hx, rfl, rfl, rfl, by decide, by decide⟩⟩, rfl⟩
theorem fn33 : fnOk1 P noW 33 Go.Proofs.Tryd.f33 := ⟨Go.Proofs.Tryd.func33, by kernel_rfl, by kernel_rfl, by kernel_rfl⟩
set_option maxRecDepth 100000 in
theorem hold33_s : SoundF P 33 (Cof (Splain mkNetA (fun q => okb q.1 ∧ q.1.length = 4 ∧ okb q.2.2 ∧ q.2.2.length = 4) fun q => .bo (Hn 32 q.1 q.2.1 q.2.2))) := by
  refine SoundF.plainH (follows_cons tholdr_f (follows_nil _)) (with1_sound fn55.ok hr55_s (noEnv_sound _)) mo fn33 (fun q => ?_) (fun _ => rfl) noL ?_
  · show AV.unders 0 [.ag (q.1.map (AV.i .u8) ++ [.i .i64 q.2.1]), .ag (q.2.2.map (AV.i .u8))] = true
    simp only [AV.unders, AV.under, unders_append, Bool.and_true, Bool.and_eq_true]
    exact ⟨unders_map 0 _ (fun _ => rfl) _, unders_map 0 _ (fun _ => rfl) _⟩
  · rintro ⟨l, n, a⟩ ⟨hk, hl, hx, ha⟩
    match l, hl, a, ha with
    | [p0, p1, p2, p3], _, [x0, x1, x2, x3], _ => exact run33 hk hx
end Go.Proofs.YtohaalilplngnaaDoor.ClassRun
