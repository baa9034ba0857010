/- The loops over an address' bytes -/
import Derived.Test.YtohaalilplngnaaDoorClassHDef
set_option linter.unusedVariables false
set_option linter.unusedSimpArgs false
open Go Go.Proofs.YtohaalilplngnaaDoor.Eng Go.RowKit
namespace Go.Proofs.YtohaalilplngnaaDoor.ClassRun
theorem vc68 (off len : Nat) (cap : Option Nat) (n : Int) (c : List AV) (R : AV → Hp → Prop) : (wpFn P tnil noW (head68 off len cap n c) 1 Go.Proofs.Tryd.f68 [.sl 0 off len 1 cap, .i .i64 n] [.cells c false] R) = (Wk (1 : Nat) { t := [AV.sl (0 : Nat) off len (1 : Nat) cap, AV.i IntKind.i64 n, .bad, .bad, .bad, .bad, .bad, .bad, AV.sl (0 : Nat) off len (1 : Nat) cap, AV.i IntKind.i64 (↑len : Int), AV.i IntKind.i64 (0 : Int), .bad, .bad, .bad, .bad, .bad, .bad, .bad, .bad, .bad, .bad, .bad, .bad, .bad, .bad, .bad], h := [Blk.cells c false] } { t := [AV.sl (0 : Nat) off len (1 : Nat) cap, AV.i IntKind.i64 n, .bad, .bad, .bad, .bad, .bad, .bad, AV.sl (0 : Nat) off len (1 : Nat) cap, AV.i IntKind.i64 (↑len : Int), AV.i IntKind.i64 (0 : Int), .bad, .bad, .bad, .bad, .bad, .bad, .bad, .bad, .bad, .bad, .bad, .bad, .bad, .bad, .bad], h := [Blk.cells c false] } ∧ ∃ (I : Nat → Int → Prop), ∃ (n_1 : Nat), I n_1 (0 : Int) ∧ ∀ (a : Int) (n_2 : Nat), I n_2 a → br (decide (a < (↑len : Int))) (Holds ((0 : Int) ≤ a ∧ a < (↑len : Int)) ∧ ∃ (n_3 : Int), Holds (c[off + Int.toNat a * (1 : Nat)]? = some (AV.i IntKind.u8 n_3)) ∧ Holds ((0 : Int) ≤ if (8 : Int) < if (0 : Int) > IntKind.wrap IntKind.i64 (n - IntKind.wrap IntKind.i64 ((8 : Int) * a)) then (0 : Int) else IntKind.wrap IntKind.i64 (n - IntKind.wrap IntKind.i64 ((8 : Int) * a)) then (8 : Int) else if (0 : Int) > IntKind.wrap IntKind.i64 (n - IntKind.wrap IntKind.i64 ((8 : Int) * a)) then (0 : Int) else IntKind.wrap IntKind.i64 (n - IntKind.wrap IntKind.i64 ((8 : Int) * a))) ∧ br (IntKind.wrap IntKind.u8 (n_3 * (2 : Int) ^ min (Int.toNat (if (8 : Int) < if (0 : Int) > IntKind.wrap IntKind.i64 (n - IntKind.wrap IntKind.i64 ((8 : Int) * a)) then (0 : Int) else IntKind.wrap IntKind.i64 (n - IntKind.wrap IntKind.i64 ((8 : Int) * a)) then (8 : Int) else if (0 : Int) > IntKind.wrap IntKind.i64 (n - IntKind.wrap IntKind.i64 ((8 : Int) * a)) then (0 : Int) else IntKind.wrap IntKind.i64 (n - IntKind.wrap IntKind.i64 ((8 : Int) * a)))) (IntKind.bits IntKind.u8)) != (0 : Int)) (R (AV.bo false) [Blk.cells c false]) (Wk (1 : Nat) { t := [AV.sl (0 : Nat) off len (1 : Nat) cap, AV.i IntKind.i64 n, .bad, .bad, .bad, .bad, .bad, .bad, AV.sl (0 : Nat) off len (1 : Nat) cap, AV.i IntKind.i64 (↑len : Int), AV.i IntKind.i64 (IntKind.wrap IntKind.i64 (a + (1 : Int))), .bad, .bad, .bad, .bad, .bad, .bad, .bad, .bad, .bad, .bad, .bad, .bad, .bad, .bad, .bad], h := [Blk.cells c false] } { t := [AV.sl (0 : Nat) off len (1 : Nat) cap, AV.i IntKind.i64 n, .bad, .bad, .bad, .bad, .bad, .bad, AV.sl (0 : Nat) off len (1 : Nat) cap, AV.i IntKind.i64 (↑len : Int), AV.i IntKind.i64 (IntKind.wrap IntKind.i64 (a + (1 : Int))), .bad, .bad, .bad, .bad, .bad, .bad, .bad, .bad, .bad, .bad, .bad, .bad, .bad, .bad, .bad], h := [Blk.cells c false] } ∧ ∃ (m : Nat), Holds (m < n_2) ∧ I m (IntKind.wrap IntKind.i64 (a + (1 : Int))))) (R (AV.bo true) [Blk.cells c false])) := by kernel_rfl
theorem vc48 (oa ob len lenb : Nat) (ca cb : Option Nat) (n : Int) (c d : List AV) (R : AV → Hp → Prop) : (wpFn P tnil noW (head48 oa ob len lenb ca cb n c d) 2 Go.Proofs.Tryd.f48 [.sl 0 oa len 1 ca, .sl 1 ob lenb 1 cb, .i .i64 n] [.cells c false, .cells d false] R) = (Wk (2 : Nat) { t := [AV.sl (0 : Nat) oa len (1 : Nat) ca, AV.sl (1 : Nat) ob lenb (1 : Nat) cb, AV.i IntKind.i64 n, .bad, .bad, .bad, .bad, .bad, .bad, .bad, AV.i IntKind.i64 (↑len : Int), AV.i IntKind.i64 (0 : Int), .bad, .bad, .bad, .bad, .bad, .bad, .bad, .bad, .bad, .bad, .bad, .bad, .bad, .bad, .bad, .bad, .bad, .bad, .bad, .bad, .bad, .bad], h := [Blk.cells c false, Blk.cells d false] } { t := [AV.sl (0 : Nat) oa len (1 : Nat) ca, AV.sl (1 : Nat) ob lenb (1 : Nat) cb, AV.i IntKind.i64 n, .bad, .bad, .bad, .bad, .bad, .bad, .bad, AV.i IntKind.i64 (↑len : Int), AV.i IntKind.i64 (0 : Int), .bad, .bad, .bad, .bad, .bad, .bad, .bad, .bad, .bad, .bad, .bad, .bad, .bad, .bad, .bad, .bad, .bad, .bad, .bad, .bad, .bad, .bad], h := [Blk.cells c false, Blk.cells d false] } ∧ ∃ (I : Nat → Int → Prop), ∃ (n_1 : Nat), I n_1 (0 : Int) ∧ ∀ (a : Int) (n_2 : Nat), I n_2 a → br (decide (a < (↑len : Int))) (Holds ((0 : Int) ≤ a ∧ a < (↑len : Int)) ∧ ∃ (n_3 : Int), Holds (c[oa + Int.toNat a * (1 : Nat)]? = some (AV.i IntKind.u8 n_3)) ∧ Holds ((0 : Int) ≤ a ∧ a < (↑lenb : Int)) ∧ ∃ (n_4 : Int), Holds (d[ob + Int.toNat a * (1 : Nat)]? = some (AV.i IntKind.u8 n_4)) ∧ Holds ((0 : Int) ≤ IntKind.wrap IntKind.i64 ((8 : Int) - if (8 : Int) < if (0 : Int) > IntKind.wrap IntKind.i64 (n - IntKind.wrap IntKind.i64 ((8 : Int) * a)) then (0 : Int) else IntKind.wrap IntKind.i64 (n - IntKind.wrap IntKind.i64 ((8 : Int) * a)) then (8 : Int) else if (0 : Int) > IntKind.wrap IntKind.i64 (n - IntKind.wrap IntKind.i64 ((8 : Int) * a)) then (0 : Int) else IntKind.wrap IntKind.i64 (n - IntKind.wrap IntKind.i64 ((8 : Int) * a)))) ∧ br (Int.fdiv (bits BinOp.xor IntKind.u8 n_3 n_4) ((2 : Int) ^ min (Int.toNat (IntKind.wrap IntKind.i64 ((8 : Int) - if (8 : Int) < if (0 : Int) > IntKind.wrap IntKind.i64 (n - IntKind.wrap IntKind.i64 ((8 : Int) * a)) then (0 : Int) else IntKind.wrap IntKind.i64 (n - IntKind.wrap IntKind.i64 ((8 : Int) * a)) then (8 : Int) else if (0 : Int) > IntKind.wrap IntKind.i64 (n - IntKind.wrap IntKind.i64 ((8 : Int) * a)) then (0 : Int) else IntKind.wrap IntKind.i64 (n - IntKind.wrap IntKind.i64 ((8 : Int) * a))))) (IntKind.bits IntKind.u8)) != (0 : Int)) (R (AV.bo false) [Blk.cells c false, Blk.cells d false]) (Wk (2 : Nat) { t := [AV.sl (0 : Nat) oa len (1 : Nat) ca, AV.sl (1 : Nat) ob lenb (1 : Nat) cb, AV.i IntKind.i64 n, .bad, .bad, .bad, .bad, .bad, .bad, .bad, AV.i IntKind.i64 (↑len : Int), AV.i IntKind.i64 (IntKind.wrap IntKind.i64 (a + (1 : Int))), .bad, .bad, .bad, .bad, .bad, .bad, .bad, .bad, .bad, .bad, .bad, .bad, .bad, .bad, .bad, .bad, .bad, .bad, .bad, .bad, .bad, .bad], h := [Blk.cells c false, Blk.cells d false] } { t := [AV.sl (0 : Nat) oa len (1 : Nat) ca, AV.sl (1 : Nat) ob lenb (1 : Nat) cb, AV.i IntKind.i64 n, .bad, .bad, .bad, .bad, .bad, .bad, .bad, AV.i IntKind.i64 (↑len : Int), AV.i IntKind.i64 (IntKind.wrap IntKind.i64 (a + (1 : Int))), .bad, .bad, .bad, .bad, .bad, .bad, .bad, .bad, .bad, .bad, .bad, .bad, .bad, .bad, .bad, .bad, .bad, .bad, .bad, .bad, .bad, .bad], h := [Blk.cells c false, Blk.cells d false] } ∧ ∃ (m : Nat), Holds (m < n_2) ∧ I m (IntKind.wrap IntKind.i64 (a + (1 : Int))))) (R (AV.bo true) [Blk.cells c false, Blk.cells d false])) := by kernel_rfl
/-- How many bits of byte i belong to the first n. -/
def kk (n : Int) (i : Nat) : Nat := min (n - 8 * i).toNat 8
def Bv (l : List Int) (n : Int) : Bool := (List.range l.length).all fun i => decide (l.getD i 0 % 2 ^ (8 - kk n i) = 0)
def Hv (x y : List Int) (n : Int) : Bool := (List.range x.length).all fun i => decide (x.getD i 0 / 2 ^ (8 - kk n i) = y.getD i 0 / 2 ^ (8 - kk n i))
def okb (l : List Int) : Prop := ∀ i, i < l.length → 0 ≤ l.getD i 0 ∧ l.getD i 0 ≤ 255
theorem kk_le (n : Int) (i : Nat) : kk n i ≤ 8 := Nat.min_le_right _ _
theorem kk_if {n : Int} {i : Nat} (h0 : 0 ≤ n) (h1 : n ≤ 128) (hi : i < 16) : (if (8 : Int) < (if (0 : Int) > IntKind.wrap .i64 (n - IntKind.wrap .i64 (8 * (i : Int))) then (0 : Int) else IntKind.wrap .i64 (n - IntKind.wrap .i64 (8 * (i : Int)))) then (8 : Int) else (if (0 : Int) > IntKind.wrap .i64 (n - IntKind.wrap .i64 (8 * (i : Int))) then (0 : Int) else IntKind.wrap .i64 (n - IntKind.wrap .i64 (8 * (i : Int))))) = (kk n i : Nat) := by
  rw [i64w (x := 8 * (i : Int)) (by omega) (by omega), i64w (by omega) (by omega)]
  unfold kk
  split
  · split at * <;> omega
  · split at * <;> omega
theorem bare_bit {b : Int} (h0 : 0 ≤ b) (h1 : b ≤ 255) : ∀ k : Nat, k ≤ 8 → (IntKind.wrap .u8 (b * (2 : Int) ^ min (Int.toNat (k : Int)) (IntKind.bits .u8)) != 0) = !decide (b % 2 ^ (8 - k) = 0) := by
  intro k hk
  have : k = 0 ∨ k = 1 ∨ k = 2 ∨ k = 3 ∨ k = 4 ∨ k = 5 ∨ k = 6 ∨ k = 7 ∨ k = 8 := by omega
  have e8 : IntKind.bits .u8 = 8 := rfl
  rw [wrap8, e8]
  rw [Bool.eq_iff_iff]
  rcases this with rfl | rfl | rfl | rfl | rfl | rfl | rfl | rfl | rfl <;> simp <;> omega
theorem xor8 {x y : Int} (x0 : 0 ≤ x) (x1 : x ≤ 255) (y0 : 0 ≤ y) (y1 : y ≤ 255) : Go.bits .xor .u8 x y = ((x.toNat ^^^ y.toNat : Nat) : Int) := by
  unfold Go.bits
  have e : (BitVec.ofInt IntKind.u8.bits x ^^^ BitVec.ofInt IntKind.u8.bits y).toNat = x.toNat ^^^ y.toNat := by
    rw [BitVec.toNat_xor]
    have h1 : (BitVec.ofInt IntKind.u8.bits x).toNat = x.toNat := by
      rw [BitVec.toNat_ofInt]
      show (x % 256).toNat = _
      omega
    have h2 : (BitVec.ofInt IntKind.u8.bits y).toNat = y.toNat := by
      rw [BitVec.toNat_ofInt]
      show (y % 256).toNat = _
      omega
    rw [h1, h2]
  simp only [e]
  have : x.toNat ^^^ y.toNat < 2 ^ 8 := Nat.xor_lt_two_pow (by omega) (by omega)
  rw [wrap8]; omega
theorem xor_top (a b j : Nat) : (a ^^^ b) / 2 ^ j = 0 ↔ a / 2 ^ j = b / 2 ^ j := by
  rw [← Nat.shiftRight_eq_div_pow, ← Nat.shiftRight_eq_div_pow, ← Nat.shiftRight_eq_div_pow, Nat.shiftRight_xor_distrib]
  generalize a >>> j = p
  generalize b >>> j = q
  constructor
  · intro h
    have e : (p ^^^ q) ^^^ q = p := by rw [Nat.xor_assoc, Nat.xor_self, Nat.xor_zero]
    rw [← e, h, Nat.zero_xor]
  · rintro rfl
    exact Nat.xor_self _
theorem hold_bit {x y : Int} (x0 : 0 ≤ x) (x1 : x ≤ 255) (y0 : 0 ≤ y) (y1 : y ≤ 255) (k : Nat) (hk : k ≤ 8) :
    (Int.fdiv (Go.bits .xor .u8 x y) ((2 : Int) ^ min (Int.toNat (IntKind.wrap .i64 (8 - (k : Int)))) (IntKind.bits .u8)) != 0) = !decide (x / 2 ^ (8 - k) = y / 2 ^ (8 - k)) := by
  have e8 : IntKind.bits .u8 = 8 := rfl
  rw [xor8 x0 x1 y0 y1, i64w (by omega) (by omega), e8]
  have ek : min (Int.toNat (8 - (k : Int))) 8 = 8 - k := by omega
  rw [ek, fd _ _ (Int.le_of_lt (Int.pow_pos (by decide)))]
  obtain ⟨a, rfl⟩ : ∃ a : Nat, x = a := ⟨x.toNat, by omega⟩
  obtain ⟨b, rfl⟩ : ∃ b : Nat, y = b := ⟨y.toNat, by omega⟩
  generalize 8 - k = j
  have t := xor_top a b j
  rw [Bool.eq_iff_iff]
  have p : ((2 : Int) ^ j) = ((2 ^ j : Nat) : Int) := by norm_cast
  simp only [Int.toNat_natCast, p, bne_iff_ne, ne_eq, Bool.not_eq_true', decide_eq_false_iff_not]
  constructor
  · intro h e
    exact h (by exact_mod_cast t.2 (by exact_mod_cast e))
  · intro h e
    exact h (by exact_mod_cast t.1 (by exact_mod_cast e))
theorem run68 {off len : Nat} {cap : Option Nat} {n : Int} {c : List AV} {l : List Int} (hl : l.length = len) (h16 : len ≤ 16) (hn0 : 0 ≤ n) (hn1 : n ≤ 128) (ho : okb l) (hc : ∀ i, i < len → c[off + i * 1]? = some (.i .u8 (l.getD i 0))) :
    wpFn P tnil noW (head68 off len cap n c) 1 Go.Proofs.Tryd.f68 [.sl 0 off len 1 cap, .i .i64 n] [.cells c false] fun v _ => v = .bo (Bv l n) := by
  rw [vc68]
  refine ⟨Wk.refl _ _, fun m i => ∃ k : Nat, i = k ∧ k + m = len ∧ ∀ j, j < k → l.getD j 0 % 2 ^ (8 - kk n j) = 0, len, ⟨0, rfl, by omega, fun j hj => absurd hj (Nat.not_lt_zero j)⟩, ?_⟩
  rintro i m ⟨k, rfl, hk, hall⟩
  refine br_intro (fun hi => ?_) (fun hi => ?_)
  · simp only [decide_eq_true_eq] at hi
    have hkl : k < len := by omega
    have hb := ho k (by omega)
    rw [kk_if hn0 hn1 (by omega)]
    refine ⟨⟨Int.natCast_nonneg _, hi⟩, l.getD k 0, ⟨by rw [Int.toNat_natCast]; exact hc k hkl⟩, ⟨Int.natCast_nonneg _⟩, ?_⟩
    rw [bare_bit hb.1 hb.2 _ (kk_le n k)]
    refine br_intro (fun h => ?_) (fun h => ⟨Wk.refl _ _, m - 1, ⟨by omega⟩, k + 1, i64w (x := (k : Int) + 1) (by omega) (by omega), by omega, fun j hj => ?_⟩)
    · have : Bv l n = false := by
        rw [Bv, Bool.eq_false_iff]
        intro ha
        have := List.all_eq_true.1 ha k (List.mem_range.2 (by omega))
        rw [this] at h; cases h
      rw [this]
    · rcases Nat.lt_or_ge j k with e | e
      · exact hall j e
      · have : j = k := by omega
        subst this
        simpa using h
  · simp only [decide_eq_false_iff_not] at hi
    have : Bv l n = true := by
      rw [Bv, List.all_eq_true]
      intro j hj
      have := List.mem_range.1 hj
      simpa using hall j (by omega)
    rw [this]
theorem run48 {oa ob len lenb : Nat} {ca cb : Option Nat} {n : Int} {c d : List AV} {x y : List Int} (hl : x.length = len) (hlb : lenb = len) (hy : y.length = len) (h16 : len ≤ 16) (hn0 : 0 ≤ n) (hn1 : n ≤ 128) (hox : okb x) (hoy : okb y)
    (hc : ∀ i, i < len → c[oa + i * 1]? = some (.i .u8 (x.getD i 0))) (hd : ∀ i, i < len → d[ob + i * 1]? = some (.i .u8 (y.getD i 0))) :
    wpFn P tnil noW (head48 oa ob len lenb ca cb n c d) 2 Go.Proofs.Tryd.f48 [.sl 0 oa len 1 ca, .sl 1 ob lenb 1 cb, .i .i64 n] [.cells c false, .cells d false] fun v _ => v = .bo (Hv x y n) := by
  subst hlb
  rw [vc48]
  refine ⟨Wk.refl _ _, fun m i => ∃ k : Nat, i = k ∧ k + m = lenb ∧ ∀ j, j < k → x.getD j 0 / 2 ^ (8 - kk n j) = y.getD j 0 / 2 ^ (8 - kk n j), lenb, ⟨0, rfl, by omega, fun j hj => absurd hj (Nat.not_lt_zero j)⟩, ?_⟩
  rintro i m ⟨k, rfl, hk, hall⟩
  refine br_intro (fun hi => ?_) (fun hi => ?_)
  · simp only [decide_eq_true_eq] at hi
    have hkl : k < lenb := by omega
    have hb := hox k (by omega)
    have hb' := hoy k (by omega)
    have hk8 := kk_le n k
    rw [kk_if hn0 hn1 (by omega)]
    refine ⟨⟨Int.natCast_nonneg _, hi⟩, x.getD k 0, ⟨by rw [Int.toNat_natCast]; exact hc k hkl⟩, ⟨Int.natCast_nonneg _, hi⟩, y.getD k 0, ⟨by rw [Int.toNat_natCast]; exact hd k hkl⟩, ⟨by rw [i64w (by omega) (by omega)]; omega⟩, ?_⟩
    rw [hold_bit hb.1 hb.2 hb'.1 hb'.2 _ hk8]
    refine br_intro (fun h => ?_) (fun h => ⟨Wk.refl _ _, m - 1, ⟨by omega⟩, k + 1, i64w (x := (k : Int) + 1) (by omega) (by omega), by omega, fun j hj => ?_⟩)
    · have : Hv x y n = false := by
        rw [Hv, Bool.eq_false_iff]
        intro ha
        have := List.all_eq_true.1 ha k (List.mem_range.2 (by omega))
        rw [this] at h; cases h
      rw [this]
    · rcases Nat.lt_or_ge j k with e | e
      · exact hall j e
      · have : j = k := by omega
        subst this
        simpa using h
  · simp only [decide_eq_false_iff_not] at hi
    have : Hv x y n = true := by
      rw [Hv, List.all_eq_true]
      intro j hj
      have := List.mem_range.1 hj
      simpa using hall j (by omega)
    rw [this]
