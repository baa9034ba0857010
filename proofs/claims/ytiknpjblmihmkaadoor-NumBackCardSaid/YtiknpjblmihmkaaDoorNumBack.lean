/- What was written is read back: the law. -/
import Derived.Test.YtiknpjblmihmkaaDoorNumBackMath
import Derived.Test.YtiknpjblmihmkaaDoorNumBackVa
import Derived.Test.YtiknpjblmihmkaaDoorNumBackVb
set_option linter.unusedVariables false
set_option linter.unusedSimpArgs false
open Go Go.Proofs.YtiknpjblmihmkaaDoor.Eng Go.RowKit
namespace Go.Proofs.YtiknpjblmihmkaaDoor.NumRun
theorem tl' (x : ByteArray) : ¬ (!ByteArray.toList x == ByteArray.toList x) = true := by simp
theorem nn' {x : Int} : ¬ (x != x) = true := by simp
set_option maxRecDepth 100000 in
theorem law6rn {len cap : Nat} {xs : List Int} (b : ByteArray) (hl : len ≤ xs.length) (hxs : ∀ x ∈ xs, 0 ≤ x ∧ x ≤ 4294967295) :
    wpFn P (T6 F0 nG nB nC) noW (head6 (.sl 0 0 len 1 (some cap)) .sn [.cells (xs.map (AV.i .u32)) false] 1 2 b) 1 Go.Proofs.Tryd.f6 [.sl 0 0 len 1 (some cap), .sn, .s b] [.cells (xs.map (AV.i .u32)) false] fun v _ => v = .bo true := by
  have hu0 : AV.unders 0 (xs.map (AV.i .u32)) = true := unders_map 0 _ (fun _ => rfl) _
  have hum : ∀ k, AV.unders 0 (many [] 0 k) = true := fun k => many_flat k
  have hus : ∀ k (n : Int), AV.unders 0 (many [] 0 k ++ [.i .i64 n]) = true := fun k n => by rw [unders_append, hum]; rfl
  have hx : ∀ k : Nat, k < len → ∃ x, (xs.map (AV.i .u32))[0 + (k : Int).toNat * 1]? = some (.i .u32 x) ∧ xs.getD k 0 = x ∧ 0 ≤ x ∧ x ≤ 4294967295 := by
    intro k hk
    have hk' : k < xs.length := by omega
    refine ⟨xs[k], ?_, ?_, hxs _ (List.getElem_mem hk')⟩
    · rw [Nat.zero_add, Nat.mul_one, Int.toNat_natCast, List.getElem?_map, List.getElem?_eq_getElem hk']; rfl
    · rw [List.getD_eq_getElem?_getD, List.getElem?_eq_getElem hk']; rfl
  rw [vc6rn]
  generalize xs.map (AV.i .u32) = c0 at *
  refine br_intro (fun _ => rfl) fun h1 => br_intro (fun _ => rfl) fun h2 => ?_
  have h300 : len ≤ 300 := by simp at h1; omega
  have hb300 : b.size ≤ 300 := by simp at h2; omega
  have blen : ∀ k, (bs xs [] 0 k).length ≤ 4 * k := fun k => bs_len k
  have tsz : ∀ k, (textOf (bs xs [] 0 k)).size = (bs xs [] 0 k).length := fun k => textOf_size _
  refine ⟨Wk.refl _ _, I1 xs [] 0 len, len, ⟨rfl, rfl, rfl⟩, ?_, ?_⟩
  · rintro ⟨s, i⟩ m ⟨e1, e2, e3⟩
    simp only at e1 e2 e3
    subst e1 e2 e3
    refine br_intro (fun hi => ?_) (fun hi => ?_)
    · simp only [decide_eq_true_eq] at hi
      obtain ⟨x, hx1, hx2, hx3, hx4⟩ := hx 0 (by omega)
      have wx : IntKind.wrap .i64 x = x := i64w (by omega) (by omega)
      have rng : (0 : Int) ≤ (0 : Nat) ∧ ((0 : Nat) : Int) < len := ⟨Int.natCast_nonneg _, by omega⟩
      refine br_intro (fun hiy => ?_) (fun hiy => ?_)
      · simp only [decide_eq_true_eq] at hiy
        omega
      · have en : sz [] 0 0 = 4 := by rw [sz, if_neg (by omega)]
        have hg : nG (xv xs [] 0 0) 4 = true := by have := xv_good (xs := xs) (ys := []) (leny := 0) hxs 0; rw [en] at this; exact this
        have hsz : ¬ (((nB (xv xs [] 0 0) 4).size : Int) != 4) = true := by rw [nB_size hg (by decide)]; decide
        have h0s : (⟨#[]⟩ : ByteArray).size + (nB (xv xs [] 0 0) 4).size ≤ 9223372036854775807 := by
          have e := nB_size hg (by decide)
          have e0 : (⟨#[]⟩ : ByteArray).size = 0 := rfl
          omega
        refine ⟨⟨rng⟩, x, ⟨hx1⟩, ?_⟩
        rw [wx]
        rw [show nG x 4 = nG (xv xs [] 0 0) 4 by rw [← xv4 hx2 en], show nB x 4 = nB (xv xs [] 0 0) 4 by rw [← xv4 hx2 en]]
        refine br_intro (fun _ => br_intro (fun h => absurd h hsz) (fun _ => ?_)) (fun g => by rw [hg] at g; cases g)
        · refine ⟨⟨h0s⟩, ⟨by decide⟩, ⟨by decide⟩, Wk.rows [0, 2] (by decide) rfl rfl (gc_flat rfl (by intro B hB; simp only [List.mem_cons, List.not_mem_nil, or_false] at hB; rcases hB with rfl | rfl <;> first | exact ⟨_, _, rfl, hu0⟩ | exact ⟨_, _, rfl, rfl⟩ | exact ⟨_, _, rfl, hum _⟩ | exact ⟨_, _, rfl, hus _ _⟩)) rfl, len - 1, ⟨by omega⟩, 1, by omega, by omega, ?_, rfl, ?_, rfl⟩
          · exact (text_step (k := 0) en hg).symm ▸ rfl
          · exact many_step (k := 0) en
    · simp only [decide_eq_false_iff_not] at hi
      have l0 : len = 0 := by omega
      subst l0
      refine ⟨⟨show (⟨#[]⟩ : ByteArray).size + b.size ≤ 9223372036854775807 by have e0 : (⟨#[]⟩ : ByteArray).size = 0 := rfl; omega⟩, Wk.refl _ _, I2n b, 0, ⟨rfl, rfl, rfl, rfl⟩, ?_, ?_⟩
      · rintro ⟨s2, t2, a2, i2⟩ m2 ⟨f1, f2, f3, f4⟩
        simp only at f1 f2 f3 f4
        subst f1 f2 f3 f4
        refine br_intro (fun h => absurd h (by simp)) (fun _ => ?_)
        have e0 : (⟨#[]⟩ : ByteArray).size = 0 := rfl
        have okt : okS (⟨#[]⟩ ++ b) 0 := ⟨by omega, by omega, by rw [ByteArray.size_append]; omega⟩
        have yb : F0.Y (⟨#[]⟩ ++ b) 0 = b := rest_of ⟨#[]⟩ b
        have hs3 : (⟨#[]⟩ : ByteArray).size ≤ 1000000 := by omega
        refine ⟨⟨okt⟩, br_intro (fun h => absurd h ?_) (fun _ => ⟨(⟨#[]⟩ : ByteArray) ++ b, ⟨rfl⟩, gZ ((⟨#[]⟩ : ByteArray) ++ b), ⟨rfl⟩, br_intro (fun h => absurd h ?_) (fun _ => ⟨Wk.rows [0, 2] (by decide) rfl rfl (gc_flat rfl (by intro B hB; simp only [List.mem_cons, List.not_mem_nil, or_false] at hB; rcases hB with rfl | rfl <;> first | exact ⟨_, _, rfl, hu0⟩ | exact ⟨_, _, rfl, rfl⟩ | exact ⟨_, _, rfl, hum _⟩ | exact ⟨_, _, rfl, hus _ _⟩)) rfl, I3 (⟨#[]⟩ : ByteArray), ((⟨#[]⟩ : ByteArray)).size, ⟨rfl, rfl, 0, by omega, rfl, rfl⟩, ?_⟩)⟩)⟩
        · rw [show F0.Y ((⟨#[]⟩ : ByteArray) ++ b) _ = b from yb]; exact tl' _
        · rw [show gZ ((⟨#[]⟩ : ByteArray) ++ b) = (((⟨#[]⟩ : ByteArray) ++ b).size : Int) from rfl, Int.sub_self]; decide
        · rintro ⟨s3, t3, a3, i3⟩ m3 ⟨e1, e2, k3, hk3, e3, e4⟩
          simp only at e1 e2 e3 e4
          subst e1 e2 e3 e4
          refine br_intro (fun hi3 => ?_) (fun _ => rfl)
          simp only [decide_eq_true_eq] at hi3
          obtain ⟨b3, hb3, hn3⟩ := byte_at (⟨#[]⟩ : ByteArray) (k := k3) (by omega)
          have hb4 := byte_lt b3
          refine ⟨⟨⟨Int.natCast_nonneg _, (show (k3 : Int) ≤ ((⟨#[]⟩ : ByteArray)).size by omega), hs3⟩, .inl rfl⟩, br_intro (fun _ => ⟨⟨Int.natCast_nonneg _⟩, b3, ⟨by rw [Int.toNat_natCast]; exact hb3⟩, br_intro (fun h => absurd h ?_) (fun _ => ⟨Wk.refl _ _, m3 - 1, ⟨by omega⟩, rfl, rfl, k3 + 1, by omega, rfl, i64w (x := (k3 : Int) + 1) (by omega) (by omega)⟩)⟩) (fun g => ?_)⟩
          · rw [show F0.N (⟨#[]⟩ : ByteArray) k3 1 = (b3.toNat : Int) from hn3, i64w (by omega) (by omega)]; exact nn'
          · exact absurd g (by rw [show F0.G (⟨#[]⟩ : ByteArray) k3 1 = gG (⟨#[]⟩ : ByteArray) k3 1 from rfl]; simp [gG]; omega)
      · rintro q m2 hf
        exact hf.elim
  · rintro ⟨s, ⟨q, ms⟩, i⟩ m ⟨k, k0, hk, e1, e2, e3, e4⟩
    simp only at e1 e2 e3 e4
    subst e1 e2 e3 e4
    refine br_intro (fun hi => ?_) (fun hi => ?_)
    · simp only [decide_eq_true_eq] at hi
      obtain ⟨x, hx1, hx2, hx3, hx4⟩ := hx k (by omega)
      have wx : IntKind.wrap .i64 x = x := i64w (by omega) (by omega)
      have rng : (0 : Int) ≤ (k : Nat) ∧ ((k : Nat) : Int) < len := ⟨Int.natCast_nonneg _, by omega⟩
      refine br_intro (fun hiy => ?_) (fun hiy => ?_)
      · simp only [decide_eq_true_eq] at hiy
        omega
      · have en : sz [] 0 k = 4 := by rw [sz, if_neg (by omega)]
        have hg : nG (xv xs [] 0 k) 4 = true := by have := xv_good (xs := xs) (ys := []) (leny := 0) hxs k; rw [en] at this; exact this
        have hsz : ¬ (((nB (xv xs [] 0 k) 4).size : Int) != 4) = true := by rw [nB_size hg (by decide)]; decide
        have h0s : (textOf (bs xs [] 0 k) : ByteArray).size + (nB (xv xs [] 0 k) 4).size ≤ 9223372036854775807 := by
          have e := nB_size hg (by decide)
          have e0 := tsz k
          have e1 := blen k
          omega
        refine ⟨⟨rng⟩, x, ⟨hx1⟩, ?_⟩
        rw [wx]
        rw [show nG x 4 = nG (xv xs [] 0 k) 4 by rw [← xv4 hx2 en], show nB x 4 = nB (xv xs [] 0 k) 4 by rw [← xv4 hx2 en]]
        refine br_intro (fun _ => br_intro (fun h => absurd h hsz) (fun _ => ?_)) (fun g => by rw [hg] at g; cases g)
        · refine ⟨⟨h0s⟩, ⟨by decide⟩, ⟨show (k + 1) * 8 ≤ 140737488355328 by omega⟩, ⟨rfl⟩, ⟨by show 0 + k * 1 = (many [] 0 k).length; rw [many_len]; omega⟩, Wk.rows [0, 3] (by decide) rfl rfl (gc_flat rfl (by intro B hB; simp only [List.mem_cons, List.not_mem_nil, or_false] at hB; rcases hB with rfl | rfl <;> first | exact ⟨_, _, rfl, hu0⟩ | exact ⟨_, _, rfl, rfl⟩ | exact ⟨_, _, rfl, hum _⟩ | exact ⟨_, _, rfl, hus _ _⟩)) rfl, m - 1, ⟨by omega⟩, k + 1, by omega, by omega, ?_, rfl, ?_, ?_⟩
          · exact text_step en hg
          · exact many_step en
          · exact i64w (x := (k : Int) + 1) (by omega) (by omega)
    · simp only [decide_eq_false_iff_not] at hi
      have l0 : k = len := by omega
      subst l0
      have b0 := blen k
      have t0 := tsz k
      refine ⟨⟨show (textOf (bs xs [] 0 k)).size + b.size ≤ 9223372036854775807 by omega⟩, Wk.refl _ _, I2r xs [] 0 k b, k, ⟨0, by omega, rfl, rfl, rfl, rfl, rfl, rfl⟩, ?_, ?_⟩
      · rintro q' m2 hf
        exact hf.elim
      · rintro ⟨s2, ⟨q2, ms2⟩, t2, a2, i2⟩ m2 ⟨j, hj, f1, f2, f3, f4, f5, f6⟩
        simp only at f1 f2 f3 f4 f5 f6
        subst f1 f2 f3 f4 f5 f6
        refine br_intro (fun hi2 => ?_) (fun hi2 => ?_)
        · simp only [decide_eq_true_eq] at hi2
          obtain ⟨x, hx1, hx2, hx3, hx4⟩ := hx j (by omega)
          have wx : IntKind.wrap .i64 x = x := i64w (by omega) (by omega)
          have rng : (0 : Int) ≤ (j : Nat) ∧ ((j : Nat) : Int) < k := ⟨Int.natCast_nonneg _, by omega⟩
          have hN := read_at (xs := xs) (ys := []) (leny := 0) hxs (k := j) (len := k) (by omega) b
          have hlen := bs_succ_len (xs := xs) (ys := []) (leny := 0) j
          obtain ⟨r, hr⟩ := bs_split (xs := xs) (ys := []) (leny := 0) (k := j) (len := k) (by omega)
          have hle : (bs xs [] 0 j).length + (sz [] 0 j).toNat ≤ (bs xs [] 0 k).length := by rw [hr, List.length_append, List.length_append, putL_len]; omega
          have srg := sz_range (ys := []) (leny := 0) j
          have okt : okS (textOf (bs xs [] 0 k) ++ b) ((bs xs [] 0 j).length : Int) := ⟨Int.natCast_nonneg _, by rw [ByteArray.size_append]; omega, by rw [ByteArray.size_append]; omega⟩
          have hG : F0.G (textOf (bs xs [] 0 k) ++ b) ((bs xs [] 0 j).length : Int) (sz [] 0 j) = true := by
            show gG _ _ _ = true
            simp only [gG, decide_eq_true_eq]; rw [ByteArray.size_append]; omega
          have hm : (many [] 0 k)[0 + (j : Int).toNat * 1]? = some (.i .i64 (sz [] 0 j)) := by rw [Nat.zero_add, Nat.mul_one, Int.toNat_natCast]; exact many_get (by omega)
          rcases sz_ok (ys := []) (leny := 0) j with en | en | en
          · rw [en] at hm hG hN hlen
            have hne : ¬ (F0.N (textOf (bs xs [] 0 k) ++ b) ((bs xs [] 0 j).length : Int) 1 != Int.tmod (IntKind.wrap .i64 x) (IntKind.wrap .i64 (1 * 2 ^ min (Int.toNat (IntKind.wrap .u64 (IntKind.wrap .i64 (8 * 1)))) (IntKind.bits .i64)))) = true := by rw [show F0.N _ _ 1 = _ from hN, wx, mod1, xv1 hx2 hx3 en]; exact nn'
            exact ⟨⟨rng⟩, 1, ⟨hm⟩, br_intro (fun _ => ⟨⟨okt, .inl rfl⟩, br_intro (fun _ => ⟨⟨rng⟩, x, ⟨hx1⟩, ⟨rng⟩, 1, ⟨hm⟩, br_intro (fun _ => ⟨⟨rng⟩, 1, ⟨hm⟩, ⟨by decide⟩, ⟨by decide⟩, br_intro (fun h => absurd h hne) (fun _ => ⟨Wk.refl _ _, m2 - 1, ⟨by omega⟩, j + 1, by omega, rfl, rfl, rfl, rfl, hlen.symm, i64w (x := (j : Int) + 1) (by omega) (by omega)⟩)⟩) (fun h => absurd h (by decide))⟩) (fun g => by rw [hG] at g; cases g)⟩) (fun h => absurd h (by decide))⟩
          · rw [en] at hm hG hN hlen
            have hne : ¬ (F0.N (textOf (bs xs [] 0 k) ++ b) ((bs xs [] 0 j).length : Int) 2 != Int.tmod (IntKind.wrap .i64 x) (IntKind.wrap .i64 (1 * 2 ^ min (Int.toNat (IntKind.wrap .u64 (IntKind.wrap .i64 (8 * 2)))) (IntKind.bits .i64)))) = true := by rw [show F0.N _ _ 2 = _ from hN, wx, mod2, xv2 hx2 hx3 en]; exact nn'
            exact ⟨⟨rng⟩, 2, ⟨hm⟩, br_intro (fun h => absurd h (by decide)) (fun _ => br_intro (fun _ => ⟨⟨okt, .inr (.inl rfl)⟩, br_intro (fun _ => ⟨⟨rng⟩, x, ⟨hx1⟩, ⟨rng⟩, 2, ⟨hm⟩, br_intro (fun _ => ⟨⟨rng⟩, 2, ⟨hm⟩, ⟨by decide⟩, ⟨by decide⟩, br_intro (fun h => absurd h hne) (fun _ => ⟨Wk.refl _ _, m2 - 1, ⟨by omega⟩, j + 1, by omega, rfl, rfl, rfl, rfl, hlen.symm, i64w (x := (j : Int) + 1) (by omega) (by omega)⟩)⟩) (fun h => absurd h (by decide))⟩) (fun g => by rw [hG] at g; cases g)⟩) (fun h => absurd h (by decide)))⟩
          · rw [en] at hm hG hN hlen
            have hne : ¬ (F0.N (textOf (bs xs [] 0 k) ++ b) ((bs xs [] 0 j).length : Int) 4 != IntKind.wrap .i64 x) = true := by rw [show F0.N _ _ 4 = _ from hN, wx, ← xv4 hx2 en]; exact nn'
            exact ⟨⟨rng⟩, 4, ⟨hm⟩, br_intro (fun h => absurd h (by decide)) (fun _ => br_intro (fun h => absurd h (by decide)) (fun _ => ⟨⟨okt, .inr (.inr rfl)⟩, br_intro (fun _ => ⟨⟨rng⟩, x, ⟨hx1⟩, ⟨rng⟩, 4, ⟨hm⟩, br_intro (fun h => absurd h (by decide)) (fun _ => br_intro (fun h => absurd h hne) (fun _ => ⟨Wk.refl _ _, m2 - 1, ⟨by omega⟩, j + 1, by omega, rfl, rfl, rfl, rfl, hlen.symm, i64w (x := (j : Int) + 1) (by omega) (by omega)⟩))⟩) (fun g => by rw [hG] at g; cases g)⟩))⟩
        · simp only [decide_eq_false_iff_not] at hi2
          have j0 : j = k := by omega
          subst j0
          have okt : okS (textOf (bs xs [] 0 j) ++ b) ((bs xs [] 0 j).length : Int) := ⟨Int.natCast_nonneg _, by rw [ByteArray.size_append]; omega, by rw [ByteArray.size_append]; omega⟩
          have yb : F0.Y (textOf (bs xs [] 0 j) ++ b) ((bs xs [] 0 j).length : Int) = b := by have := rest_of (textOf (bs xs [] 0 j)) b; rw [tsz j] at this; exact this
          have hs3 : (textOf (bs xs [] 0 j)).size ≤ 1000000 := by omega
          refine ⟨⟨okt⟩, br_intro (fun h => absurd h ?_) (fun _ => ⟨(textOf (bs xs [] 0 j)) ++ b, ⟨rfl⟩, gZ ((textOf (bs xs [] 0 j)) ++ b), ⟨rfl⟩, br_intro (fun h => absurd h ?_) (fun _ => ⟨Wk.rows [0, 3] (by decide) rfl rfl (gc_flat rfl (by intro B hB; simp only [List.mem_cons, List.not_mem_nil, or_false] at hB; rcases hB with rfl | rfl <;> first | exact ⟨_, _, rfl, hu0⟩ | exact ⟨_, _, rfl, rfl⟩ | exact ⟨_, _, rfl, hum _⟩ | exact ⟨_, _, rfl, hus _ _⟩)) rfl, I3 (textOf (bs xs [] 0 j)), ((textOf (bs xs [] 0 j))).size, ⟨rfl, rfl, 0, by omega, rfl, rfl⟩, ?_⟩)⟩)⟩
          · rw [show F0.Y ((textOf (bs xs [] 0 j)) ++ b) _ = b from yb]; exact tl' _
          · rw [show gZ ((textOf (bs xs [] 0 j)) ++ b) = (((textOf (bs xs [] 0 j)) ++ b).size : Int) from rfl, Int.sub_self]; decide
          · rintro ⟨s3, t3, a3, i3⟩ m3 ⟨e1, e2, k3, hk3, e3, e4⟩
            simp only at e1 e2 e3 e4
            subst e1 e2 e3 e4
            refine br_intro (fun hi3 => ?_) (fun _ => rfl)
            simp only [decide_eq_true_eq] at hi3
            obtain ⟨b3, hb3, hn3⟩ := byte_at (textOf (bs xs [] 0 j)) (k := k3) (by omega)
            have hb4 := byte_lt b3
            refine ⟨⟨⟨Int.natCast_nonneg _, (show (k3 : Int) ≤ ((textOf (bs xs [] 0 j))).size by omega), hs3⟩, .inl rfl⟩, br_intro (fun _ => ⟨⟨Int.natCast_nonneg _⟩, b3, ⟨by rw [Int.toNat_natCast]; exact hb3⟩, br_intro (fun h => absurd h ?_) (fun _ => ⟨Wk.refl _ _, m3 - 1, ⟨by omega⟩, rfl, rfl, k3 + 1, by omega, rfl, i64w (x := (k3 : Int) + 1) (by omega) (by omega)⟩)⟩) (fun g => ?_)⟩
            · rw [show F0.N (textOf (bs xs [] 0 j)) k3 1 = (b3.toNat : Int) from hn3, i64w (by omega) (by omega)]; exact nn'
            · exact absurd g (by rw [show F0.G (textOf (bs xs [] 0 j)) k3 1 = gG (textOf (bs xs [] 0 j)) k3 1 from rfl]; simp [gG]; omega)
set_option maxRecDepth 100000 in
theorem law6rr {len cap : Nat} {leny cay : Nat} {xs ys : List Int} (b : ByteArray) (hl : len ≤ xs.length) (hxs : ∀ x ∈ xs, 0 ≤ x ∧ x ≤ 4294967295) (hly : leny ≤ ys.length) (hys : ∀ v ∈ ys, 0 ≤ v ∧ v ≤ 255) :
    wpFn P (T6 F0 nG nB nC) noW (head6 (.sl 0 0 len 1 (some cap)) (.sl 1 0 leny 1 (some cay)) [.cells (xs.map (AV.i .u32)) false, .cells (ys.map (AV.i .u8)) false] 2 3 b) 2 Go.Proofs.Tryd.f6 [.sl 0 0 len 1 (some cap), (.sl 1 0 leny 1 (some cay)), .s b] [.cells (xs.map (AV.i .u32)) false, .cells (ys.map (AV.i .u8)) false] fun v _ => v = .bo true := by
  have hu0 : AV.unders 0 (xs.map (AV.i .u32)) = true := unders_map 0 _ (fun _ => rfl) _
  have hu1 : AV.unders 0 (ys.map (AV.i .u8)) = true := unders_map 0 _ (fun _ => rfl) _
  have hum : ∀ k, AV.unders 0 (many ys leny k) = true := fun k => many_flat k
  have hus : ∀ k (n : Int), AV.unders 0 (many ys leny k ++ [.i .i64 n]) = true := fun k n => by rw [unders_append, hum]; rfl
  have hx : ∀ k : Nat, k < len → ∃ x, (xs.map (AV.i .u32))[0 + (k : Int).toNat * 1]? = some (.i .u32 x) ∧ xs.getD k 0 = x ∧ 0 ≤ x ∧ x ≤ 4294967295 := by
    intro k hk
    have hk' : k < xs.length := by omega
    refine ⟨xs[k], ?_, ?_, hxs _ (List.getElem_mem hk')⟩
    · rw [Nat.zero_add, Nat.mul_one, Int.toNat_natCast, List.getElem?_map, List.getElem?_eq_getElem hk']; rfl
    · rw [List.getD_eq_getElem?_getD, List.getElem?_eq_getElem hk']; rfl
  have hy : ∀ k : Nat, k < leny → ∃ v, (ys.map (AV.i .u8))[0 + (k : Int).toNat * 1]? = some (.i .u8 v) ∧ sz ys leny k = szv v ∧ 0 ≤ v := by
    intro k hk
    have hk' : k < ys.length := by omega
    refine ⟨ys[k], ?_, ?_, (hys _ (List.getElem_mem hk')).1⟩
    · rw [Nat.zero_add, Nat.mul_one, Int.toNat_natCast, List.getElem?_map, List.getElem?_eq_getElem hk']; rfl
    · rw [sz, if_pos hk, List.getD_eq_getElem?_getD, List.getElem?_eq_getElem hk']; rfl
  rw [vc6rr]
  generalize xs.map (AV.i .u32) = c0 at *
  generalize ys.map (AV.i .u8) = c1 at *
  refine br_intro (fun _ => rfl) fun h1 => br_intro (fun _ => rfl) fun h2 => ?_
  have h300 : len ≤ 300 := by simp at h1; omega
  have hb300 : b.size ≤ 300 := by simp at h2; omega
  have blen : ∀ k, (bs xs ys leny k).length ≤ 4 * k := fun k => bs_len k
  have tsz : ∀ k, (textOf (bs xs ys leny k)).size = (bs xs ys leny k).length := fun k => textOf_size _
  refine ⟨Wk.refl _ _, I1 xs ys leny len, len, ⟨rfl, rfl, rfl⟩, ?_, ?_⟩
  · rintro ⟨s, i⟩ m ⟨e1, e2, e3⟩
    simp only at e1 e2 e3
    subst e1 e2 e3
    refine br_intro (fun hi => ?_) (fun hi => ?_)
    · simp only [decide_eq_true_eq] at hi
      obtain ⟨x, hx1, hx2, hx3, hx4⟩ := hx 0 (by omega)
      have wx : IntKind.wrap .i64 x = x := i64w (by omega) (by omega)
      have rng : (0 : Int) ≤ (0 : Nat) ∧ ((0 : Nat) : Int) < len := ⟨Int.natCast_nonneg _, by omega⟩
      refine br_intro (fun hiy => ?_) (fun hiy => ?_)
      · simp only [decide_eq_true_eq] at hiy
        obtain ⟨v, hv1, hv2, hv3⟩ := hy 0 (by omega)
        refine ⟨⟨Int.natCast_nonneg _, hiy⟩, v, ⟨hv1⟩, ⟨by rw [Int.tmod_eq_emod_of_nonneg hv3]; omega⟩, ⟨rng⟩, x, ⟨hx1⟩, ?_⟩
        rw [shl_sz hv3, wx]
        rcases szv_ok v with e | e | e
        · have en : sz ys leny 0 = 1 := hv2.trans e
          rw [e, mod1]
          have hg : nG (xv xs ys leny 0) 1 = true := by have := xv_good (xs := xs) (ys := ys) (leny := leny) hxs 0; rw [en] at this; exact this
          have hsz : ¬ (((nB (xv xs ys leny 0) 1).size : Int) != 1) = true := by rw [nB_size hg (by decide)]; decide
          have h0s : (⟨#[]⟩ : ByteArray).size + (nB (xv xs ys leny 0) 1).size ≤ 9223372036854775807 := by
            have e := nB_size hg (by decide)
            have e0 : (⟨#[]⟩ : ByteArray).size = 0 := rfl
            omega
          refine br_intro (fun _ => ⟨⟨by decide⟩, ⟨by decide⟩, ?_⟩) (fun h => absurd h (by decide))
          rw [xv1 hx2 hx3 en]
          refine br_intro (fun _ => br_intro (fun h => absurd h hsz) (fun _ => ?_)) (fun g => by rw [hg] at g; cases g)
          · refine ⟨⟨h0s⟩, ⟨by decide⟩, ⟨by decide⟩, Wk.rows [0, 1, 3] (by decide) rfl rfl (gc_flat rfl (by intro B hB; simp only [List.mem_cons, List.not_mem_nil, or_false] at hB; rcases hB with rfl | rfl | rfl <;> first | exact ⟨_, _, rfl, hu0⟩ | exact ⟨_, _, rfl, hu1⟩ | exact ⟨_, _, rfl, rfl⟩ | exact ⟨_, _, rfl, hum _⟩ | exact ⟨_, _, rfl, hus _ _⟩)) rfl, len - 1, ⟨by omega⟩, 1, by omega, by omega, ?_, rfl, ?_, rfl⟩
            · exact (text_step (k := 0) en hg).symm ▸ rfl
            · exact many_step (k := 0) en
        · have en : sz ys leny 0 = 2 := hv2.trans e
          rw [e, mod2]
          have hg : nG (xv xs ys leny 0) 2 = true := by have := xv_good (xs := xs) (ys := ys) (leny := leny) hxs 0; rw [en] at this; exact this
          have hsz : ¬ (((nB (xv xs ys leny 0) 2).size : Int) != 2) = true := by rw [nB_size hg (by decide)]; decide
          have h0s : (⟨#[]⟩ : ByteArray).size + (nB (xv xs ys leny 0) 2).size ≤ 9223372036854775807 := by
            have e := nB_size hg (by decide)
            have e0 : (⟨#[]⟩ : ByteArray).size = 0 := rfl
            omega
          refine br_intro (fun _ => ⟨⟨by decide⟩, ⟨by decide⟩, ?_⟩) (fun h => absurd h (by decide))
          rw [xv2 hx2 hx3 en]
          refine br_intro (fun _ => br_intro (fun h => absurd h hsz) (fun _ => ?_)) (fun g => by rw [hg] at g; cases g)
          · refine ⟨⟨h0s⟩, ⟨by decide⟩, ⟨by decide⟩, Wk.rows [0, 1, 3] (by decide) rfl rfl (gc_flat rfl (by intro B hB; simp only [List.mem_cons, List.not_mem_nil, or_false] at hB; rcases hB with rfl | rfl | rfl <;> first | exact ⟨_, _, rfl, hu0⟩ | exact ⟨_, _, rfl, hu1⟩ | exact ⟨_, _, rfl, rfl⟩ | exact ⟨_, _, rfl, hum _⟩ | exact ⟨_, _, rfl, hus _ _⟩)) rfl, len - 1, ⟨by omega⟩, 1, by omega, by omega, ?_, rfl, ?_, rfl⟩
            · exact (text_step (k := 0) en hg).symm ▸ rfl
            · exact many_step (k := 0) en
        · have en : sz ys leny 0 = 4 := hv2.trans e
          rw [e]
          have hg : nG (xv xs ys leny 0) 4 = true := by have := xv_good (xs := xs) (ys := ys) (leny := leny) hxs 0; rw [en] at this; exact this
          have hsz : ¬ (((nB (xv xs ys leny 0) 4).size : Int) != 4) = true := by rw [nB_size hg (by decide)]; decide
          have h0s : (⟨#[]⟩ : ByteArray).size + (nB (xv xs ys leny 0) 4).size ≤ 9223372036854775807 := by
            have e := nB_size hg (by decide)
            have e0 : (⟨#[]⟩ : ByteArray).size = 0 := rfl
            omega
          refine br_intro (fun h => absurd h (by decide)) (fun _ => ?_)
          rw [show nG x 4 = nG (xv xs ys leny 0) 4 by rw [← xv4 hx2 en], show nB x 4 = nB (xv xs ys leny 0) 4 by rw [← xv4 hx2 en]]
          refine br_intro (fun _ => br_intro (fun h => absurd h hsz) (fun _ => ?_)) (fun g => by rw [hg] at g; cases g)
          · refine ⟨⟨h0s⟩, ⟨by decide⟩, ⟨by decide⟩, Wk.rows [0, 1, 3] (by decide) rfl rfl (gc_flat rfl (by intro B hB; simp only [List.mem_cons, List.not_mem_nil, or_false] at hB; rcases hB with rfl | rfl | rfl <;> first | exact ⟨_, _, rfl, hu0⟩ | exact ⟨_, _, rfl, hu1⟩ | exact ⟨_, _, rfl, rfl⟩ | exact ⟨_, _, rfl, hum _⟩ | exact ⟨_, _, rfl, hus _ _⟩)) rfl, len - 1, ⟨by omega⟩, 1, by omega, by omega, ?_, rfl, ?_, rfl⟩
            · exact (text_step (k := 0) en hg).symm ▸ rfl
            · exact many_step (k := 0) en
      · simp only [decide_eq_false_iff_not] at hiy
        have en : sz ys leny 0 = 4 := by rw [sz, if_neg (by omega)]
        have hg : nG (xv xs ys leny 0) 4 = true := by have := xv_good (xs := xs) (ys := ys) (leny := leny) hxs 0; rw [en] at this; exact this
        have hsz : ¬ (((nB (xv xs ys leny 0) 4).size : Int) != 4) = true := by rw [nB_size hg (by decide)]; decide
        have h0s : (⟨#[]⟩ : ByteArray).size + (nB (xv xs ys leny 0) 4).size ≤ 9223372036854775807 := by
          have e := nB_size hg (by decide)
          have e0 : (⟨#[]⟩ : ByteArray).size = 0 := rfl
          omega
        refine ⟨⟨rng⟩, x, ⟨hx1⟩, ?_⟩
        rw [wx]
        rw [show nG x 4 = nG (xv xs ys leny 0) 4 by rw [← xv4 hx2 en], show nB x 4 = nB (xv xs ys leny 0) 4 by rw [← xv4 hx2 en]]
        refine br_intro (fun _ => br_intro (fun h => absurd h hsz) (fun _ => ?_)) (fun g => by rw [hg] at g; cases g)
        · refine ⟨⟨h0s⟩, ⟨by decide⟩, ⟨by decide⟩, Wk.rows [0, 1, 3] (by decide) rfl rfl (gc_flat rfl (by intro B hB; simp only [List.mem_cons, List.not_mem_nil, or_false] at hB; rcases hB with rfl | rfl | rfl <;> first | exact ⟨_, _, rfl, hu0⟩ | exact ⟨_, _, rfl, hu1⟩ | exact ⟨_, _, rfl, rfl⟩ | exact ⟨_, _, rfl, hum _⟩ | exact ⟨_, _, rfl, hus _ _⟩)) rfl, len - 1, ⟨by omega⟩, 1, by omega, by omega, ?_, rfl, ?_, rfl⟩
          · exact (text_step (k := 0) en hg).symm ▸ rfl
          · exact many_step (k := 0) en
    · simp only [decide_eq_false_iff_not] at hi
      have l0 : len = 0 := by omega
      subst l0
      refine ⟨⟨show (⟨#[]⟩ : ByteArray).size + b.size ≤ 9223372036854775807 by have e0 : (⟨#[]⟩ : ByteArray).size = 0 := rfl; omega⟩, Wk.refl _ _, I2n b, 0, ⟨rfl, rfl, rfl, rfl⟩, ?_, ?_⟩
      · rintro ⟨s2, t2, a2, i2⟩ m2 ⟨f1, f2, f3, f4⟩
        simp only at f1 f2 f3 f4
        subst f1 f2 f3 f4
        refine br_intro (fun h => absurd h (by simp)) (fun _ => ?_)
        have e0 : (⟨#[]⟩ : ByteArray).size = 0 := rfl
        have okt : okS (⟨#[]⟩ ++ b) 0 := ⟨by omega, by omega, by rw [ByteArray.size_append]; omega⟩
        have yb : F0.Y (⟨#[]⟩ ++ b) 0 = b := rest_of ⟨#[]⟩ b
        have hs3 : (⟨#[]⟩ : ByteArray).size ≤ 1000000 := by omega
        refine ⟨⟨okt⟩, br_intro (fun h => absurd h ?_) (fun _ => ⟨(⟨#[]⟩ : ByteArray) ++ b, ⟨rfl⟩, gZ ((⟨#[]⟩ : ByteArray) ++ b), ⟨rfl⟩, br_intro (fun h => absurd h ?_) (fun _ => ⟨Wk.rows [0, 1, 3] (by decide) rfl rfl (gc_flat rfl (by intro B hB; simp only [List.mem_cons, List.not_mem_nil, or_false] at hB; rcases hB with rfl | rfl | rfl <;> first | exact ⟨_, _, rfl, hu0⟩ | exact ⟨_, _, rfl, hu1⟩ | exact ⟨_, _, rfl, rfl⟩ | exact ⟨_, _, rfl, hum _⟩ | exact ⟨_, _, rfl, hus _ _⟩)) rfl, I3 (⟨#[]⟩ : ByteArray), ((⟨#[]⟩ : ByteArray)).size, ⟨rfl, rfl, 0, by omega, rfl, rfl⟩, ?_⟩)⟩)⟩
        · rw [show F0.Y ((⟨#[]⟩ : ByteArray) ++ b) _ = b from yb]; exact tl' _
        · rw [show gZ ((⟨#[]⟩ : ByteArray) ++ b) = (((⟨#[]⟩ : ByteArray) ++ b).size : Int) from rfl, Int.sub_self]; decide
        · rintro ⟨s3, t3, a3, i3⟩ m3 ⟨e1, e2, k3, hk3, e3, e4⟩
          simp only at e1 e2 e3 e4
          subst e1 e2 e3 e4
          refine br_intro (fun hi3 => ?_) (fun _ => rfl)
          simp only [decide_eq_true_eq] at hi3
          obtain ⟨b3, hb3, hn3⟩ := byte_at (⟨#[]⟩ : ByteArray) (k := k3) (by omega)
          have hb4 := byte_lt b3
          refine ⟨⟨⟨Int.natCast_nonneg _, (show (k3 : Int) ≤ ((⟨#[]⟩ : ByteArray)).size by omega), hs3⟩, .inl rfl⟩, br_intro (fun _ => ⟨⟨Int.natCast_nonneg _⟩, b3, ⟨by rw [Int.toNat_natCast]; exact hb3⟩, br_intro (fun h => absurd h ?_) (fun _ => ⟨Wk.refl _ _, m3 - 1, ⟨by omega⟩, rfl, rfl, k3 + 1, by omega, rfl, i64w (x := (k3 : Int) + 1) (by omega) (by omega)⟩)⟩) (fun g => ?_)⟩
          · rw [show F0.N (⟨#[]⟩ : ByteArray) k3 1 = (b3.toNat : Int) from hn3, i64w (by omega) (by omega)]; exact nn'
          · exact absurd g (by rw [show F0.G (⟨#[]⟩ : ByteArray) k3 1 = gG (⟨#[]⟩ : ByteArray) k3 1 from rfl]; simp [gG]; omega)
      · rintro q m2 hf
        exact hf.elim
  · rintro ⟨s, ⟨q, ms⟩, i⟩ m ⟨k, k0, hk, e1, e2, e3, e4⟩
    simp only at e1 e2 e3 e4
    subst e1 e2 e3 e4
    refine br_intro (fun hi => ?_) (fun hi => ?_)
    · simp only [decide_eq_true_eq] at hi
      obtain ⟨x, hx1, hx2, hx3, hx4⟩ := hx k (by omega)
      have wx : IntKind.wrap .i64 x = x := i64w (by omega) (by omega)
      have rng : (0 : Int) ≤ (k : Nat) ∧ ((k : Nat) : Int) < len := ⟨Int.natCast_nonneg _, by omega⟩
      refine br_intro (fun hiy => ?_) (fun hiy => ?_)
      · simp only [decide_eq_true_eq] at hiy
        obtain ⟨v, hv1, hv2, hv3⟩ := hy k (by omega)
        refine ⟨⟨Int.natCast_nonneg _, hiy⟩, v, ⟨hv1⟩, ⟨by rw [Int.tmod_eq_emod_of_nonneg hv3]; omega⟩, ⟨rng⟩, x, ⟨hx1⟩, ?_⟩
        rw [shl_sz hv3, wx]
        rcases szv_ok v with e | e | e
        · have en : sz ys leny k = 1 := hv2.trans e
          rw [e, mod1]
          have hg : nG (xv xs ys leny k) 1 = true := by have := xv_good (xs := xs) (ys := ys) (leny := leny) hxs k; rw [en] at this; exact this
          have hsz : ¬ (((nB (xv xs ys leny k) 1).size : Int) != 1) = true := by rw [nB_size hg (by decide)]; decide
          have h0s : (textOf (bs xs ys leny k) : ByteArray).size + (nB (xv xs ys leny k) 1).size ≤ 9223372036854775807 := by
            have e := nB_size hg (by decide)
            have e0 := tsz k
            have e1 := blen k
            omega
          refine br_intro (fun _ => ⟨⟨by decide⟩, ⟨by decide⟩, ?_⟩) (fun h => absurd h (by decide))
          rw [xv1 hx2 hx3 en]
          refine br_intro (fun _ => br_intro (fun h => absurd h hsz) (fun _ => ?_)) (fun g => by rw [hg] at g; cases g)
          · refine ⟨⟨h0s⟩, ⟨by decide⟩, ⟨show (k + 1) * 8 ≤ 140737488355328 by omega⟩, ⟨rfl⟩, ⟨by show 0 + k * 1 = (many ys leny k).length; rw [many_len]; omega⟩, Wk.rows [0, 1, 4] (by decide) rfl rfl (gc_flat rfl (by intro B hB; simp only [List.mem_cons, List.not_mem_nil, or_false] at hB; rcases hB with rfl | rfl | rfl <;> first | exact ⟨_, _, rfl, hu0⟩ | exact ⟨_, _, rfl, hu1⟩ | exact ⟨_, _, rfl, rfl⟩ | exact ⟨_, _, rfl, hum _⟩ | exact ⟨_, _, rfl, hus _ _⟩)) rfl, m - 1, ⟨by omega⟩, k + 1, by omega, by omega, ?_, rfl, ?_, ?_⟩
            · exact text_step en hg
            · exact many_step en
            · exact i64w (x := (k : Int) + 1) (by omega) (by omega)
        · have en : sz ys leny k = 2 := hv2.trans e
          rw [e, mod2]
          have hg : nG (xv xs ys leny k) 2 = true := by have := xv_good (xs := xs) (ys := ys) (leny := leny) hxs k; rw [en] at this; exact this
          have hsz : ¬ (((nB (xv xs ys leny k) 2).size : Int) != 2) = true := by rw [nB_size hg (by decide)]; decide
          have h0s : (textOf (bs xs ys leny k) : ByteArray).size + (nB (xv xs ys leny k) 2).size ≤ 9223372036854775807 := by
            have e := nB_size hg (by decide)
            have e0 := tsz k
            have e1 := blen k
            omega
          refine br_intro (fun _ => ⟨⟨by decide⟩, ⟨by decide⟩, ?_⟩) (fun h => absurd h (by decide))
          rw [xv2 hx2 hx3 en]
          refine br_intro (fun _ => br_intro (fun h => absurd h hsz) (fun _ => ?_)) (fun g => by rw [hg] at g; cases g)
          · refine ⟨⟨h0s⟩, ⟨by decide⟩, ⟨show (k + 1) * 8 ≤ 140737488355328 by omega⟩, ⟨rfl⟩, ⟨by show 0 + k * 1 = (many ys leny k).length; rw [many_len]; omega⟩, Wk.rows [0, 1, 4] (by decide) rfl rfl (gc_flat rfl (by intro B hB; simp only [List.mem_cons, List.not_mem_nil, or_false] at hB; rcases hB with rfl | rfl | rfl <;> first | exact ⟨_, _, rfl, hu0⟩ | exact ⟨_, _, rfl, hu1⟩ | exact ⟨_, _, rfl, rfl⟩ | exact ⟨_, _, rfl, hum _⟩ | exact ⟨_, _, rfl, hus _ _⟩)) rfl, m - 1, ⟨by omega⟩, k + 1, by omega, by omega, ?_, rfl, ?_, ?_⟩
            · exact text_step en hg
            · exact many_step en
            · exact i64w (x := (k : Int) + 1) (by omega) (by omega)
        · have en : sz ys leny k = 4 := hv2.trans e
          rw [e]
          have hg : nG (xv xs ys leny k) 4 = true := by have := xv_good (xs := xs) (ys := ys) (leny := leny) hxs k; rw [en] at this; exact this
          have hsz : ¬ (((nB (xv xs ys leny k) 4).size : Int) != 4) = true := by rw [nB_size hg (by decide)]; decide
          have h0s : (textOf (bs xs ys leny k) : ByteArray).size + (nB (xv xs ys leny k) 4).size ≤ 9223372036854775807 := by
            have e := nB_size hg (by decide)
            have e0 := tsz k
            have e1 := blen k
            omega
          refine br_intro (fun h => absurd h (by decide)) (fun _ => ?_)
          rw [show nG x 4 = nG (xv xs ys leny k) 4 by rw [← xv4 hx2 en], show nB x 4 = nB (xv xs ys leny k) 4 by rw [← xv4 hx2 en]]
          refine br_intro (fun _ => br_intro (fun h => absurd h hsz) (fun _ => ?_)) (fun g => by rw [hg] at g; cases g)
          · refine ⟨⟨h0s⟩, ⟨by decide⟩, ⟨show (k + 1) * 8 ≤ 140737488355328 by omega⟩, ⟨rfl⟩, ⟨by show 0 + k * 1 = (many ys leny k).length; rw [many_len]; omega⟩, Wk.rows [0, 1, 4] (by decide) rfl rfl (gc_flat rfl (by intro B hB; simp only [List.mem_cons, List.not_mem_nil, or_false] at hB; rcases hB with rfl | rfl | rfl <;> first | exact ⟨_, _, rfl, hu0⟩ | exact ⟨_, _, rfl, hu1⟩ | exact ⟨_, _, rfl, rfl⟩ | exact ⟨_, _, rfl, hum _⟩ | exact ⟨_, _, rfl, hus _ _⟩)) rfl, m - 1, ⟨by omega⟩, k + 1, by omega, by omega, ?_, rfl, ?_, ?_⟩
            · exact text_step en hg
            · exact many_step en
            · exact i64w (x := (k : Int) + 1) (by omega) (by omega)
      · simp only [decide_eq_false_iff_not] at hiy
        have en : sz ys leny k = 4 := by rw [sz, if_neg (by omega)]
        have hg : nG (xv xs ys leny k) 4 = true := by have := xv_good (xs := xs) (ys := ys) (leny := leny) hxs k; rw [en] at this; exact this
        have hsz : ¬ (((nB (xv xs ys leny k) 4).size : Int) != 4) = true := by rw [nB_size hg (by decide)]; decide
        have h0s : (textOf (bs xs ys leny k) : ByteArray).size + (nB (xv xs ys leny k) 4).size ≤ 9223372036854775807 := by
          have e := nB_size hg (by decide)
          have e0 := tsz k
          have e1 := blen k
          omega
        refine ⟨⟨rng⟩, x, ⟨hx1⟩, ?_⟩
        rw [wx]
        rw [show nG x 4 = nG (xv xs ys leny k) 4 by rw [← xv4 hx2 en], show nB x 4 = nB (xv xs ys leny k) 4 by rw [← xv4 hx2 en]]
        refine br_intro (fun _ => br_intro (fun h => absurd h hsz) (fun _ => ?_)) (fun g => by rw [hg] at g; cases g)
        · refine ⟨⟨h0s⟩, ⟨by decide⟩, ⟨show (k + 1) * 8 ≤ 140737488355328 by omega⟩, ⟨rfl⟩, ⟨by show 0 + k * 1 = (many ys leny k).length; rw [many_len]; omega⟩, Wk.rows [0, 1, 4] (by decide) rfl rfl (gc_flat rfl (by intro B hB; simp only [List.mem_cons, List.not_mem_nil, or_false] at hB; rcases hB with rfl | rfl | rfl <;> first | exact ⟨_, _, rfl, hu0⟩ | exact ⟨_, _, rfl, hu1⟩ | exact ⟨_, _, rfl, rfl⟩ | exact ⟨_, _, rfl, hum _⟩ | exact ⟨_, _, rfl, hus _ _⟩)) rfl, m - 1, ⟨by omega⟩, k + 1, by omega, by omega, ?_, rfl, ?_, ?_⟩
          · exact text_step en hg
          · exact many_step en
          · exact i64w (x := (k : Int) + 1) (by omega) (by omega)
    · simp only [decide_eq_false_iff_not] at hi
      have l0 : k = len := by omega
      subst l0
      have b0 := blen k
      have t0 := tsz k
      refine ⟨⟨show (textOf (bs xs ys leny k)).size + b.size ≤ 9223372036854775807 by omega⟩, Wk.refl _ _, I2r xs ys leny k b, k, ⟨0, by omega, rfl, rfl, rfl, rfl, rfl, rfl⟩, ?_, ?_⟩
      · rintro q' m2 hf
        exact hf.elim
      · rintro ⟨s2, ⟨q2, ms2⟩, t2, a2, i2⟩ m2 ⟨j, hj, f1, f2, f3, f4, f5, f6⟩
        simp only at f1 f2 f3 f4 f5 f6
        subst f1 f2 f3 f4 f5 f6
        refine br_intro (fun hi2 => ?_) (fun hi2 => ?_)
        · simp only [decide_eq_true_eq] at hi2
          obtain ⟨x, hx1, hx2, hx3, hx4⟩ := hx j (by omega)
          have wx : IntKind.wrap .i64 x = x := i64w (by omega) (by omega)
          have rng : (0 : Int) ≤ (j : Nat) ∧ ((j : Nat) : Int) < k := ⟨Int.natCast_nonneg _, by omega⟩
          have hN := read_at (xs := xs) (ys := ys) (leny := leny) hxs (k := j) (len := k) (by omega) b
          have hlen := bs_succ_len (xs := xs) (ys := ys) (leny := leny) j
          obtain ⟨r, hr⟩ := bs_split (xs := xs) (ys := ys) (leny := leny) (k := j) (len := k) (by omega)
          have hle : (bs xs ys leny j).length + (sz ys leny j).toNat ≤ (bs xs ys leny k).length := by rw [hr, List.length_append, List.length_append, putL_len]; omega
          have srg := sz_range (ys := ys) (leny := leny) j
          have okt : okS (textOf (bs xs ys leny k) ++ b) ((bs xs ys leny j).length : Int) := ⟨Int.natCast_nonneg _, by rw [ByteArray.size_append]; omega, by rw [ByteArray.size_append]; omega⟩
          have hG : F0.G (textOf (bs xs ys leny k) ++ b) ((bs xs ys leny j).length : Int) (sz ys leny j) = true := by
            show gG _ _ _ = true
            simp only [gG, decide_eq_true_eq]; rw [ByteArray.size_append]; omega
          have hm : (many ys leny k)[0 + (j : Int).toNat * 1]? = some (.i .i64 (sz ys leny j)) := by rw [Nat.zero_add, Nat.mul_one, Int.toNat_natCast]; exact many_get (by omega)
          rcases sz_ok (ys := ys) (leny := leny) j with en | en | en
          · rw [en] at hm hG hN hlen
            have hne : ¬ (F0.N (textOf (bs xs ys leny k) ++ b) ((bs xs ys leny j).length : Int) 1 != Int.tmod (IntKind.wrap .i64 x) (IntKind.wrap .i64 (1 * 2 ^ min (Int.toNat (IntKind.wrap .u64 (IntKind.wrap .i64 (8 * 1)))) (IntKind.bits .i64)))) = true := by rw [show F0.N _ _ 1 = _ from hN, wx, mod1, xv1 hx2 hx3 en]; exact nn'
            exact ⟨⟨rng⟩, 1, ⟨hm⟩, br_intro (fun _ => ⟨⟨okt, .inl rfl⟩, br_intro (fun _ => ⟨⟨rng⟩, x, ⟨hx1⟩, ⟨rng⟩, 1, ⟨hm⟩, br_intro (fun _ => ⟨⟨rng⟩, 1, ⟨hm⟩, ⟨by decide⟩, ⟨by decide⟩, br_intro (fun h => absurd h hne) (fun _ => ⟨Wk.refl _ _, m2 - 1, ⟨by omega⟩, j + 1, by omega, rfl, rfl, rfl, rfl, hlen.symm, i64w (x := (j : Int) + 1) (by omega) (by omega)⟩)⟩) (fun h => absurd h (by decide))⟩) (fun g => by rw [hG] at g; cases g)⟩) (fun h => absurd h (by decide))⟩
          · rw [en] at hm hG hN hlen
            have hne : ¬ (F0.N (textOf (bs xs ys leny k) ++ b) ((bs xs ys leny j).length : Int) 2 != Int.tmod (IntKind.wrap .i64 x) (IntKind.wrap .i64 (1 * 2 ^ min (Int.toNat (IntKind.wrap .u64 (IntKind.wrap .i64 (8 * 2)))) (IntKind.bits .i64)))) = true := by rw [show F0.N _ _ 2 = _ from hN, wx, mod2, xv2 hx2 hx3 en]; exact nn'
            exact ⟨⟨rng⟩, 2, ⟨hm⟩, br_intro (fun h => absurd h (by decide)) (fun _ => br_intro (fun _ => ⟨⟨okt, .inr (.inl rfl)⟩, br_intro (fun _ => ⟨⟨rng⟩, x, ⟨hx1⟩, ⟨rng⟩, 2, ⟨hm⟩, br_intro (fun _ => ⟨⟨rng⟩, 2, ⟨hm⟩, ⟨by decide⟩, ⟨by decide⟩, br_intro (fun h => absurd h hne) (fun _ => ⟨Wk.refl _ _, m2 - 1, ⟨by omega⟩, j + 1, by omega, rfl, rfl, rfl, rfl, hlen.symm, i64w (x := (j : Int) + 1) (by omega) (by omega)⟩)⟩) (fun h => absurd h (by decide))⟩) (fun g => by rw [hG] at g; cases g)⟩) (fun h => absurd h (by decide)))⟩
          · rw [en] at hm hG hN hlen
            have hne : ¬ (F0.N (textOf (bs xs ys leny k) ++ b) ((bs xs ys leny j).length : Int) 4 != IntKind.wrap .i64 x) = true := by rw [show F0.N _ _ 4 = _ from hN, wx, ← xv4 hx2 en]; exact nn'
            exact ⟨⟨rng⟩, 4, ⟨hm⟩, br_intro (fun h => absurd h (by decide)) (fun _ => br_intro (fun h => absurd h (by decide)) (fun _ => ⟨⟨okt, .inr (.inr rfl)⟩, br_intro (fun _ => ⟨⟨rng⟩, x, ⟨hx1⟩, ⟨rng⟩, 4, ⟨hm⟩, br_intro (fun h => absurd h (by decide)) (fun _ => br_intro (fun h => absurd h hne) (fun _ => ⟨Wk.refl _ _, m2 - 1, ⟨by omega⟩, j + 1, by omega, rfl, rfl, rfl, rfl, hlen.symm, i64w (x := (j : Int) + 1) (by omega) (by omega)⟩))⟩) (fun g => by rw [hG] at g; cases g)⟩))⟩
        · simp only [decide_eq_false_iff_not] at hi2
          have j0 : j = k := by omega
          subst j0
          have okt : okS (textOf (bs xs ys leny j) ++ b) ((bs xs ys leny j).length : Int) := ⟨Int.natCast_nonneg _, by rw [ByteArray.size_append]; omega, by rw [ByteArray.size_append]; omega⟩
          have yb : F0.Y (textOf (bs xs ys leny j) ++ b) ((bs xs ys leny j).length : Int) = b := by have := rest_of (textOf (bs xs ys leny j)) b; rw [tsz j] at this; exact this
          have hs3 : (textOf (bs xs ys leny j)).size ≤ 1000000 := by omega
          refine ⟨⟨okt⟩, br_intro (fun h => absurd h ?_) (fun _ => ⟨(textOf (bs xs ys leny j)) ++ b, ⟨rfl⟩, gZ ((textOf (bs xs ys leny j)) ++ b), ⟨rfl⟩, br_intro (fun h => absurd h ?_) (fun _ => ⟨Wk.rows [0, 1, 4] (by decide) rfl rfl (gc_flat rfl (by intro B hB; simp only [List.mem_cons, List.not_mem_nil, or_false] at hB; rcases hB with rfl | rfl | rfl <;> first | exact ⟨_, _, rfl, hu0⟩ | exact ⟨_, _, rfl, hu1⟩ | exact ⟨_, _, rfl, rfl⟩ | exact ⟨_, _, rfl, hum _⟩ | exact ⟨_, _, rfl, hus _ _⟩)) rfl, I3 (textOf (bs xs ys leny j)), ((textOf (bs xs ys leny j))).size, ⟨rfl, rfl, 0, by omega, rfl, rfl⟩, ?_⟩)⟩)⟩
          · rw [show F0.Y ((textOf (bs xs ys leny j)) ++ b) _ = b from yb]; exact tl' _
          · rw [show gZ ((textOf (bs xs ys leny j)) ++ b) = (((textOf (bs xs ys leny j)) ++ b).size : Int) from rfl, Int.sub_self]; decide
          · rintro ⟨s3, t3, a3, i3⟩ m3 ⟨e1, e2, k3, hk3, e3, e4⟩
            simp only at e1 e2 e3 e4
            subst e1 e2 e3 e4
            refine br_intro (fun hi3 => ?_) (fun _ => rfl)
            simp only [decide_eq_true_eq] at hi3
            obtain ⟨b3, hb3, hn3⟩ := byte_at (textOf (bs xs ys leny j)) (k := k3) (by omega)
            have hb4 := byte_lt b3
            refine ⟨⟨⟨Int.natCast_nonneg _, (show (k3 : Int) ≤ ((textOf (bs xs ys leny j))).size by omega), hs3⟩, .inl rfl⟩, br_intro (fun _ => ⟨⟨Int.natCast_nonneg _⟩, b3, ⟨by rw [Int.toNat_natCast]; exact hb3⟩, br_intro (fun h => absurd h ?_) (fun _ => ⟨Wk.refl _ _, m3 - 1, ⟨by omega⟩, rfl, rfl, k3 + 1, by omega, rfl, i64w (x := (k3 : Int) + 1) (by omega) (by omega)⟩)⟩) (fun g => ?_)⟩
            · rw [show F0.N (textOf (bs xs ys leny j)) k3 1 = (b3.toNat : Int) from hn3, i64w (by omega) (by omega)]; exact nn'
            · exact absurd g (by rw [show F0.G (textOf (bs xs ys leny j)) k3 1 = gG (textOf (bs xs ys leny j)) k3 1 from rfl]; simp [gG]; omega)
end Go.Proofs.YtiknpjblmihmkaaDoor.NumRun
