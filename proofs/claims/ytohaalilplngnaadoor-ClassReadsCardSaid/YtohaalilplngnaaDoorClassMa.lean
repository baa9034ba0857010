/- The forms of states of the loops over addresses. -/
import Derived.Test.YtohaalilplngnaaDoorClassUtil
set_option linter.unusedVariables false
set_option linter.unusedSimpArgs false
open Go Go.Proofs.YtohaalilplngnaaDoor.Eng Go.RowKit
namespace Go.Proofs.YtohaalilplngnaaDoor.ClassRun
def bads (n : Nat) : List AV := List.replicate n .bad
def head68 (off len : Nat) (cap : Option Nat) (n : Int) (c : List AV) : Nat → Option Head := fun r => match r with
  | 2 => some (Head.one (Get.int 10) fun i => ⟨[.sl 0 off len 1 cap, .i .i64 n, .bad, .bad, .bad, .bad, .bad, .bad, .sl 0 off len 1 cap, .i .i64 len, .i .i64 i] ++ bads 15, [.cells c false]⟩)
  | _ => none
def head48 (oa ob len lenb : Nat) (ca cb : Option Nat) (n : Int) (c d : List AV) : Nat → Option Head := fun r => match r with
  | 2 => some (Head.one (Get.int 11) fun i => ⟨[.sl 0 oa len 1 ca, .sl 1 ob lenb 1 cb, .i .i64 n, .bad, .bad, .bad, .bad, .bad, .bad, .bad, .i .i64 len, .i .i64 i] ++ bads 22, [.cells c false, .cells d false]⟩)
  | _ => none
end Go.Proofs.YtohaalilplngnaaDoor.ClassRun
/- The loops over an address' bytes -/
set_option linter.unusedVariables false
set_option linter.unusedSimpArgs false
open Go Go.Proofs.YtohaalilplngnaaDoor.Eng Go.RowKit
namespace Go.Proofs.YtohaalilplngnaaDoor.ClassRun
theorem vc68 (off len : Nat) (cap : Option Nat) (n : Int) (c : List AV) (R : AV → Hp → Prop) : (wpFn P tnil noW (head68 off len cap n c) 1 Go.Proofs.Tryd.f68 [.sl 0 off len 1 cap, .i .i64 n] [.cells c false] R) = (Wk (1 : Nat) { t := [AV.sl (0 : Nat) off len (1 : Nat) cap, AV.i IntKind.i64 n, .bad, .bad, .bad, .bad, .bad, .bad, AV.sl (0 : Nat) off len (1 : Nat) cap, AV.i IntKind.i64 (↑len : Int), AV.i IntKind.i64 (0 : Int), .bad, .bad, .bad, .bad, .bad, .bad, .bad, .bad, .bad, .bad, .bad, .bad, .bad, .bad, .bad], h := [Blk.cells c false] } { t := [AV.sl (0 : Nat) off len (1 : Nat) cap, AV.i IntKind.i64 n, .bad, .bad, .bad, .bad, .bad, .bad, AV.sl (0 : Nat) off len (1 : Nat) cap, AV.i IntKind.i64 (↑len : Int), AV.i IntKind.i64 (0 : Int), .bad, .bad, .bad, .bad, .bad, .bad, .bad, .bad, .bad, .bad, .bad, .bad, .bad, .bad, .bad], h := [Blk.cells c false] } ∧ ∃ (I : Nat → Int → Prop), ∃ (n_1 : Nat), I n_1 (0 : Int) ∧ ∀ (a : Int) (n_2 : Nat), I n_2 a → br (decide (a < (↑len : Int))) (Holds ((0 : Int) ≤ a ∧ a < (↑len : Int)) ∧ ∃ (n_3 : Int), Holds (c[off + Int.toNat a * (1 : Nat)]? = some (AV.i IntKind.u8 n_3)) ∧ Holds ((0 : Int) ≤ if (8 : Int) < if (0 : Int) > IntKind.wrap IntKind.i64 (n - IntKind.wrap IntKind.i64 ((8 : Int) * a)) then (0 : Int) else IntKind.wrap IntKind.i64 (n - IntKind.wrap IntKind.i64 ((8 : Int) * a)) then (8 : Int) else if (0 : Int) > IntKind.wrap IntKind.i64 (n - IntKind.wrap IntKind.i64 ((8 : Int) * a)) then (0 : Int) else IntKind.wrap IntKind.i64 (n - IntKind.wrap IntKind.i64 ((8 : Int) * a))) ∧ br (IntKind.wrap IntKind.u8 (n_3 * (2 : Int) ^ min (Int.toNat (if (8 : Int) < if (0 : Int) > IntKind.wrap IntKind.i64 (n - IntKind.wrap IntKind.i64 ((8 : Int) * a)) then (0 : Int) else IntKind.wrap IntKind.i64 (n - IntKind.wrap IntKind.i64 ((8 : Int) * a)) then (8 : Int) else if (0 : Int) > IntKind.wrap IntKind.i64 (n - IntKind.wrap IntKind.i64 ((8 : Int) * a)) then (0 : Int) else IntKind.wrap IntKind.i64 (n - IntKind.wrap IntKind.i64 ((8 : Int) * a)))) (IntKind.bits IntKind.u8)) != (0 : Int)) (R (AV.bo false) [Blk.cells c false]) (Wk (1 : Nat) { t := [AV.sl (0 : Nat) off len (1 : Nat) cap, AV.i IntKind.i64 n, .bad, .bad, .bad, .bad, .bad, .bad, AV.sl (0 : Nat) off len (1 : Nat) cap, AV.i IntKind.i64 (↑len : Int), AV.i IntKind.i64 (IntKind.wrap IntKind.i64 (a + (1 : Int))), .bad, .bad, .bad, .bad, .bad, .bad, .bad, .bad, .bad, .bad, .bad, .bad, .bad, .bad, .bad], h := [Blk.cells c false] } { t := [AV.sl (0 : Nat) off len (1 : Nat) cap, AV.i IntKind.i64 n, .bad, .bad, .bad, .bad, .bad, .bad, AV.sl (0 : Nat) off len (1 : Nat) cap, AV.i IntKind.i64 (↑len : Int), AV.i IntKind.i64 (IntKind.wrap IntKind.i64 (a + (1 : Int))), .bad, .bad, .bad, .bad, .bad, .bad, .bad, .bad, .bad, .bad, .bad, .bad, .bad, .bad, .bad], h := [Blk.cells c false] } ∧ ∃ (m : Nat), Holds (m < n_2) ∧ I m (IntKind.wrap IntKind.i64 (a + (1 : Int))))) (R (AV.bo true) [Blk.cells c false])) := by kernel_rfl
theorem vc48 (oa ob len lenb : Nat) (ca cb : Option Nat) (n : Int) (c d : List AV) (R : AV → Hp → Prop) : (wpFn P tnil noW (head48 oa ob len lenb ca cb n c d) 2 Go.Proofs.Tryd.f48 [.sl 0 oa len 1 ca, .sl 1 ob lenb 1 cb, .i .i64 n] [.cells c false, .cells d false] R) = (Wk (2 : Nat) { t := [AV.sl (0 : Nat) oa len (1 : Nat) ca, AV.sl (1 : Nat) ob lenb (1 : Nat) cb, AV.i IntKind.i64 n, .bad, .bad, .bad, .bad, .bad, .bad, .bad, AV.i IntKind.i64 (↑len : Int), AV.i IntKind.i64 (0 : Int), .bad, .bad, .bad, .bad, .bad, .bad, .bad, .bad, .bad, .bad, .bad, .bad, .bad, .bad, .bad, .bad, .bad, .bad, .bad, .bad, .bad, .bad], h := [Blk.cells c false, Blk.cells d false] } { t := [AV.sl (0 : Nat) oa len (1 : Nat) ca, AV.sl (1 : Nat) ob lenb (1 : Nat) cb, AV.i IntKind.i64 n, .bad, .bad, .bad, .bad, .bad, .bad, .bad, AV.i IntKind.i64 (↑len : Int), AV.i IntKind.i64 (0 : Int), .bad, .bad, .bad, .bad, .bad, .bad, .bad, .bad, .bad, .bad, .bad, .bad, .bad, .bad, .bad, .bad, .bad, .bad, .bad, .bad, .bad, .bad], h := [Blk.cells c false, Blk.cells d false] } ∧ ∃ (I : Nat → Int → Prop), ∃ (n_1 : Nat), I n_1 (0 : Int) ∧ ∀ (a : Int) (n_2 : Nat), I n_2 a → br (decide (a < (↑len : Int))) (Holds ((0 : Int) ≤ a ∧ a < (↑len : Int)) ∧ ∃ (n_3 : Int), Holds (c[oa + Int.toNat a * (1 : Nat)]? = some (AV.i IntKind.u8 n_3)) ∧ Holds ((0 : Int) ≤ a ∧ a < (↑lenb : Int)) ∧ ∃ (n_4 : Int), Holds (d[ob + Int.toNat a * (1 : Nat)]? = some (AV.i IntKind.u8 n_4)) ∧ Holds ((0 : Int) ≤ IntKind.wrap IntKind.i64 ((8 : Int) - if (8 : Int) < if (0 : Int) > IntKind.wrap IntKind.i64 (n - IntKind.wrap IntKind.i64 ((8 : Int) * a)) then (0 : Int) else IntKind.wrap IntKind.i64 (n - IntKind.wrap IntKind.i64 ((8 : Int) * a)) then (8 : Int) else if (0 : Int) > IntKind.wrap IntKind.i64 (n - IntKind.wrap IntKind.i64 ((8 : Int) * a)) then (0 : Int) else IntKind.wrap IntKind.i64 (n - IntKind.wrap IntKind.i64 ((8 : Int) * a)))) ∧ br (Int.fdiv (bits BinOp.xor IntKind.u8 n_3 n_4) ((2 : Int) ^ min (Int.toNat (IntKind.wrap IntKind.i64 ((8 : Int) - if (8 : Int) < if (0 : Int) > IntKind.wrap IntKind.i64 (n - IntKind.wrap IntKind.i64 ((8 : Int) * a)) then (0 : Int) else IntKind.wrap IntKind.i64 (n - IntKind.wrap IntKind.i64 ((8 : Int) * a)) then (8 : Int) else if (0 : Int) > IntKind.wrap IntKind.i64 (n - IntKind.wrap IntKind.i64 ((8 : Int) * a)) then (0 : Int) else IntKind.wrap IntKind.i64 (n - IntKind.wrap IntKind.i64 ((8 : Int) * a))))) (IntKind.bits IntKind.u8)) != (0 : Int)) (R (AV.bo false) [Blk.cells c false, Blk.cells d false]) (Wk (2 : Nat) { t := [AV.sl (0 : Nat) oa len (1 : Nat) ca, AV.sl (1 : Nat) ob lenb (1 : Nat) cb, AV.i IntKind.i64 n, .bad, .bad, .bad, .bad, .bad, .bad, .bad, AV.i IntKind.i64 (↑len : Int), AV.i IntKind.i64 (IntKind.wrap IntKind.i64 (a + (1 : Int))), .bad, .bad, .bad, .bad, .bad, .bad, .bad, .bad, .bad, .bad, .bad, .bad, .bad, .bad, .bad, .bad, .bad, .bad, .bad, .bad, .bad, .bad], h := [Blk.cells c false, Blk.cells d false] } { t := [AV.sl (0 : Nat) oa len (1 : Nat) ca, AV.sl (1 : Nat) ob lenb (1 : Nat) cb, AV.i IntKind.i64 n, .bad, .bad, .bad, .bad, .bad, .bad, .bad, AV.i IntKind.i64 (↑len : Int), AV.i IntKind.i64 (IntKind.wrap IntKind.i64 (a + (1 : Int))), .bad, .bad, .bad, .bad, .bad, .bad, .bad, .bad, .bad, .bad, .bad, .bad, .bad, .bad, .bad, .bad, .bad, .bad, .bad, .bad, .bad, .bad], h := [Blk.cells c false, Blk.cells d false] } ∧ ∃ (m : Nat), Holds (m < n_2) ∧ I m (IntKind.wrap IntKind.i64 (a + (1 : Int))))) (R (AV.bo true) [Blk.cells c false, Blk.cells d false])) := by kernel_rfl
/-- How many bits of byte i belong to the first n. -/
def kk (n : Int) (i : Nat) : Nat := min (n - 8 * i).toNat 8
def Bv (l : List Int) (n : Int) : Bool := (List.range l.length).all fun i => decide (l.getD i 0 % 2 ^ (8 - kk n i) = 0)
def Hv (x y : List Int) (n : Int) : Bool := (List.range x.length).all fun i => decide (x.getD i 0 / 2 ^ (8 - kk n i) = y.getD i 0 / 2 ^ (8 - kk n i))
def okb (l : List Int) : Prop := ∀ i, i < l.length → 0 ≤ l.getD i 0 ∧ l.getD i 0 ≤ 255
theorem kk_le (n : Int) (i : Nat) : kk n i ≤ 8 := Nat.min_le_right _ _
theorem kk_if {n : Int} {i : Nat} (h0 : 0 ≤ n) (h1 : n ≤ 128) (hi : i < 16) : (if (8 : Int) < (if (0 : Int) > IntKind.wrap .i64 (n - IntKind.wrap .i64 (8 * (i : Int))) then (0 : Int) else IntKind.wrap .i64 (n - IntKind.wrap .i64 (8 * (i : Int)))) then (8 : Int) else (if (0 : Int) > IntKind.wrap .i64 (n - IntKind.wrap .i64 (8 * (i : Int))) then (0 : Int) else IntKind.wrap .i64 (n - IntKind.wrap .i64 (8 * (i : Int))))) = (kk n i : Nat) := by
  rw [i64w (x := 8 * (i : Int)) (by omega) (by omega), i64w (by omega) (by omega)]
  unfold kk
  split
  · split at * <;> omega
  · split at * <;> omega
theorem bare_bit {b : Int} (h0 : 0 ≤ b) (h1 : b ≤ 255) : ∀ k : Nat, k ≤ 8 → (IntKind.wrap .u8 (b * (2 : Int) ^ min (Int.toNat (k : Int)) (IntKind.bits .u8)) != 0) = !decide (b % 2 ^ (8 - k) = 0) := by
  intro k hk
  have : k = 0 ∨ k = 1 ∨ k = 2 ∨ k = 3 ∨ k = 4 ∨ k = 5 ∨ k = 6 ∨ k = 7 ∨ k = 8 := by omega
  have e8 : IntKind.bits .u8 = 8 := rfl
  rw [wrap8, e8]
  rw [Bool.eq_iff_iff]
  rcases this with rfl | rfl | rfl | rfl | rfl | rfl | rfl | rfl | rfl <;> simp <;> omega
theorem xor8 {x y : Int} (x0 : 0 ≤ x) (x1 : x ≤ 255) (y0 : 0 ≤ y) (y1 : y ≤ 255) : Go.bits .xor .u8 x y = ((x.toNat ^^^ y.toNat : Nat) : Int) := by
  unfold Go.bits
  have e : (BitVec.ofInt IntKind.u8.bits x ^^^ BitVec.ofInt IntKind.u8.bits y).toNat = x.toNat ^^^ y.toNat := by
    rw [BitVec.toNat_xor]
    have h1 : (BitVec.ofInt IntKind.u8.bits x).toNat = x.toNat := by
      rw [BitVec.toNat_ofInt]
      show (x % 256).toNat = _
      omega
    have h2 : (BitVec.ofInt IntKind.u8.bits y).toNat = y.toNat := by
      rw [BitVec.toNat_ofInt]
      show (y % 256).toNat = _
      omega
    rw [h1, h2]
  simp only [e]
  have : x.toNat ^^^ y.toNat < 2 ^ 8 := Nat.xor_lt_two_pow (by omega) (by omega)
  rw [wrap8]; omega
theorem xor_top (a b j : Nat) : (a ^^^ b) / 2 ^ j = 0 ↔ a / 2 ^ j = b / 2 ^ j := by
  rw [← Nat.shiftRight_eq_div_pow, ← Nat.shiftRight_eq_div_pow, ← Nat.shiftRight_eq_div_pow, Nat.shiftRight_xor_distrib]
  generalize a >>> j = p
  generalize b >>> j = q
  constructor
  · intro h
    have e : (p ^^^ q) ^^^ q = p := by rw [Nat.xor_assoc, Nat.xor_self, Nat.xor_zero]
    rw [← e, h, Nat.zero_xor]
  · rintro rfl
    exact Nat.xor_self _
theorem hold_bit {x y : Int} (x0 : 0 ≤ x) (x1 : x ≤ 255) (y0 : 0 ≤ y) (y1 : y ≤ 255) (k : Nat) (hk : k ≤ 8) :
    (Int.fdiv (Go.bits .xor .u8 x y) ((2 : Int) ^ min (Int.toNat (IntKind.wrap .i64 (8 - (k : Int)))) (IntKind.bits .u8)) != 0) = !decide (x / 2 ^ (8 - k) = y / 2 ^ (8 - k)) := by
  have e8 : IntKind.bits .u8 = 8 := rfl
  rw [xor8 x0 x1 y0 y1, i64w (by omega) (by omega), e8]
  have ek : min (Int.toNat (8 - (k : Int))) 8 = 8 - k := by omega
  rw [ek, fd _ _ (Int.le_of_lt (Int.pow_pos (by decide)))]
  obtain ⟨a, rfl⟩ : ∃ a : Nat, x = a := ⟨x.toNat, by omega⟩
  obtain ⟨b, rfl⟩ : ∃ b : Nat, y = b := ⟨y.toNat, by omega⟩
  generalize 8 - k = j
  have t := xor_top a b j
  rw [Bool.eq_iff_iff]
  have p : ((2 : Int) ^ j) = ((2 ^ j : Nat) : Int) := by norm_cast
  simp only [Int.toNat_natCast, p, bne_iff_ne, ne_eq, Bool.not_eq_true', decide_eq_false_iff_not]
  constructor
  · intro h e
    exact h (by exact_mod_cast t.2 (by exact_mod_cast e))
  · intro h e
    exact h (by exact_mod_cast t.1 (by exact_mod_cast e))
theorem run68 {off len : Nat} {cap : Option Nat} {n : Int} {c : List AV} {l : List Int} (hl : l.length = len) (h16 : len ≤ 16) (hn0 : 0 ≤ n) (hn1 : n ≤ 128) (ho : okb l) (hc : ∀ i, i < len → c[off + i * 1]? = some (.i .u8 (l.getD i 0))) :
    wpFn P tnil noW (head68 off len cap n c) 1 Go.Proofs.Tryd.f68 [.sl 0 off len 1 cap, .i .i64 n] [.cells c false] fun v _ => v = .bo (Bv l n) := by
  rw [vc68]
  refine ⟨Wk.refl _ _, fun m i => ∃ k : Nat, i = k ∧ k + m = len ∧ ∀ j, j < k → l.getD j 0 % 2 ^ (8 - kk n j) = 0, len, ⟨0, rfl, by omega, fun j hj => absurd hj (Nat.not_lt_zero j)⟩, ?_⟩
  rintro i m ⟨k, rfl, hk, hall⟩
  refine br_intro (fun hi => ?_) (fun hi => ?_)
  · simp only [decide_eq_true_eq] at hi
    have hkl : k < len := by omega
    have hb := ho k (by omega)
    rw [kk_if hn0 hn1 (by omega)]
    refine ⟨⟨Int.natCast_nonneg _, hi⟩, l.getD k 0, ⟨by rw [Int.toNat_natCast]; exact hc k hkl⟩, ⟨Int.natCast_nonneg _⟩, ?_⟩
    rw [bare_bit hb.1 hb.2 _ (kk_le n k)]
    refine br_intro (fun h => ?_) (fun h => ⟨Wk.refl _ _, m - 1, ⟨by omega⟩, k + 1, i64w (x := (k : Int) + 1) (by omega) (by omega), by omega, fun j hj => ?_⟩)
    · have : Bv l n = false := by
        rw [Bv, Bool.eq_false_iff]
        intro ha
        have := List.all_eq_true.1 ha k (List.mem_range.2 (by omega))
        rw [this] at h; cases h
      rw [this]
    · rcases Nat.lt_or_ge j k with e | e
      · exact hall j e
      · have : j = k := by omega
        subst this
        simpa using h
  · simp only [decide_eq_false_iff_not] at hi
    have : Bv l n = true := by
      rw [Bv, List.all_eq_true]
      intro j hj
      have := List.mem_range.1 hj
      simpa using hall j (by omega)
    rw [this]
theorem run48 {oa ob len lenb : Nat} {ca cb : Option Nat} {n : Int} {c d : List AV} {x y : List Int} (hl : x.length = len) (hlb : lenb = len) (hy : y.length = len) (h16 : len ≤ 16) (hn0 : 0 ≤ n) (hn1 : n ≤ 128) (hox : okb x) (hoy : okb y)
    (hc : ∀ i, i < len → c[oa + i * 1]? = some (.i .u8 (x.getD i 0))) (hd : ∀ i, i < len → d[ob + i * 1]? = some (.i .u8 (y.getD i 0))) :
    wpFn P tnil noW (head48 oa ob len lenb ca cb n c d) 2 Go.Proofs.Tryd.f48 [.sl 0 oa len 1 ca, .sl 1 ob lenb 1 cb, .i .i64 n] [.cells c false, .cells d false] fun v _ => v = .bo (Hv x y n) := by
  subst hlb
  rw [vc48]
  refine ⟨Wk.refl _ _, fun m i => ∃ k : Nat, i = k ∧ k + m = lenb ∧ ∀ j, j < k → x.getD j 0 / 2 ^ (8 - kk n j) = y.getD j 0 / 2 ^ (8 - kk n j), lenb, ⟨0, rfl, by omega, fun j hj => absurd hj (Nat.not_lt_zero j)⟩, ?_⟩
  rintro i m ⟨k, rfl, hk, hall⟩
  refine br_intro (fun hi => ?_) (fun hi => ?_)
  · simp only [decide_eq_true_eq] at hi
    have hkl : k < lenb := by omega
    have hb := hox k (by omega)
    have hb' := hoy k (by omega)
    have hk8 := kk_le n k
    rw [kk_if hn0 hn1 (by omega)]
    refine ⟨⟨Int.natCast_nonneg _, hi⟩, x.getD k 0, ⟨by rw [Int.toNat_natCast]; exact hc k hkl⟩, ⟨Int.natCast_nonneg _, hi⟩, y.getD k 0, ⟨by rw [Int.toNat_natCast]; exact hd k hkl⟩, ⟨by rw [i64w (by omega) (by omega)]; omega⟩, ?_⟩
    rw [hold_bit hb.1 hb.2 hb'.1 hb'.2 _ hk8]
    refine br_intro (fun h => ?_) (fun h => ⟨Wk.refl _ _, m - 1, ⟨by omega⟩, k + 1, i64w (x := (k : Int) + 1) (by omega) (by omega), by omega, fun j hj => ?_⟩)
    · have : Hv x y n = false := by
        rw [Hv, Bool.eq_false_iff]
        intro ha
        have := List.all_eq_true.1 ha k (List.mem_range.2 (by omega))
        rw [this] at h; cases h
      rw [this]
    · rcases Nat.lt_or_ge j k with e | e
      · exact hall j e
      · have : j = k := by omega
        subst this
        simpa using h
  · simp only [decide_eq_false_iff_not] at hi
    have : Hv x y n = true := by
      rw [Hv, List.all_eq_true]
      intro j hj
      have := List.mem_range.1 hj
      simpa using hall j (by omega)
    rw [this]
end Go.Proofs.YtohaalilplngnaaDoor.ClassRun
/- Prefixes: right, holds -/
set_option linter.unusedVariables false
set_option linter.unusedSimpArgs false
open Go Go.Proofs.YtohaalilplngnaaDoor.Eng Go.RowKit
namespace Go.Proofs.YtohaalilplngnaaDoor.ClassRun
def tbare (B : List Int → Int → Bool) (args : List AV) (h : Hp) (K : AV → Hp → Prop) : Prop := match args with
  | [.sl id off len 1 cap, .i .i64 n] => match h.getD id .dead with
    | .cells c wr => optQ (numsOf ((c.drop off).take len)) fun l => Holds (okb l ∧ l.length = len ∧ len ≤ 16 ∧ 0 ≤ n ∧ n ≤ 128) ∧ K (.bo (B l n)) h
    | _ => False
  | _ => False
def tholds (B : List Int → List Int → Int → Bool) (args : List AV) (h : Hp) (K : AV → Hp → Prop) : Prop := match args with
  | [.sl ia oa la 1 ca, .sl ib ob lb 1 cb, .i .i64 n] => match h.getD ia .dead, h.getD ib .dead with
    | .cells c wr, .cells d wr' => optQ (numsOf ((c.drop oa).take la)) fun x => optQ (numsOf ((d.drop ob).take lb)) fun y => Holds (okb x ∧ okb y ∧ x.length = la ∧ y.length = la ∧ lb = la ∧ la ≤ 16 ∧ 0 ≤ n ∧ n ≤ 128 ∧ ia ≠ ib) ∧ K (.bo (B x y n)) h
    | _, _ => False
  | _ => False
/-- What a prefix answers. -/
def tright (k : Nat) (B : List Int → Int → Bool) (args : List AV) (h : Hp) (K : AV → Hp → Prop) : Prop := match args with
  | [.ag xs] => match xs.getLast? with
    | some (.i .i64 n) => optQ (numsOf xs.dropLast) fun l => Holds (okb l ∧ l.length = k) ∧ K (.bo (B l n)) h
    | _ => False
  | _ => False
theorem vc47 (B : List Int → Int → Bool) (p0 p1 p2 p3 p4 p5 p6 p7 p8 p9 p10 p11 p12 p13 p14 p15 n : Int) (R : AV → Hp → Prop) : (wpFn P (tcons 68 (tbare B) tnil) noW noL 0 Go.Proofs.Tryd.f47 [.ag [.i .u8 p0, .i .u8 p1, .i .u8 p2, .i .u8 p3, .i .u8 p4, .i .u8 p5, .i .u8 p6, .i .u8 p7, .i .u8 p8, .i .u8 p9, .i .u8 p10, .i .u8 p11, .i .u8 p12, .i .u8 p13, .i .u8 p14, .i .u8 p15, .i .i64 n]] [] R) = (∃ (n_1 : Int), Holds ([AV.i IntKind.u8 p0, AV.i IntKind.u8 p1, AV.i IntKind.u8 p2, AV.i IntKind.u8 p3, AV.i IntKind.u8 p4, AV.i IntKind.u8 p5, AV.i IntKind.u8 p6, AV.i IntKind.u8 p7, AV.i IntKind.u8 p8, AV.i IntKind.u8 p9, AV.i IntKind.u8 p10, AV.i IntKind.u8 p11, AV.i IntKind.u8 p12, AV.i IntKind.u8 p13, AV.i IntKind.u8 p14, AV.i IntKind.u8 p15, AV.i IntKind.i64 n][(16 : Nat)]? = some (AV.i IntKind.i64 n_1)) ∧ br (decide (n_1 ≥ (0 : Int))) (∃ (n_2 : Int), Holds ([AV.i IntKind.u8 p0, AV.i IntKind.u8 p1, AV.i IntKind.u8 p2, AV.i IntKind.u8 p3, AV.i IntKind.u8 p4, AV.i IntKind.u8 p5, AV.i IntKind.u8 p6, AV.i IntKind.u8 p7, AV.i IntKind.u8 p8, AV.i IntKind.u8 p9, AV.i IntKind.u8 p10, AV.i IntKind.u8 p11, AV.i IntKind.u8 p12, AV.i IntKind.u8 p13, AV.i IntKind.u8 p14, AV.i IntKind.u8 p15, AV.i IntKind.i64 n][(16 : Nat)]? = some (AV.i IntKind.i64 n_2)) ∧ br (decide (n_2 ≤ (128 : Int))) (∃ (n_3 : Int), Holds ([AV.i IntKind.u8 p0, AV.i IntKind.u8 p1, AV.i IntKind.u8 p2, AV.i IntKind.u8 p3, AV.i IntKind.u8 p4, AV.i IntKind.u8 p5, AV.i IntKind.u8 p6, AV.i IntKind.u8 p7, AV.i IntKind.u8 p8, AV.i IntKind.u8 p9, AV.i IntKind.u8 p10, AV.i IntKind.u8 p11, AV.i IntKind.u8 p12, AV.i IntKind.u8 p13, AV.i IntKind.u8 p14, AV.i IntKind.u8 p15, AV.i IntKind.i64 n][(16 : Nat)]? = some (AV.i IntKind.i64 n_3)) ∧ Holds (okb ((fun (l : List Int) => p0 :: l) ((fun (l : List Int) => p1 :: l) ((fun (l : List Int) => p2 :: l) ((fun (l : List Int) => p3 :: l) ((fun (l : List Int) => p4 :: l) ((fun (l : List Int) => p5 :: l) ((fun (l : List Int) => p6 :: l) ((fun (l : List Int) => p7 :: l) ((fun (l : List Int) => p8 :: l) ((fun (l : List Int) => p9 :: l) ((fun (l : List Int) => p10 :: l) ((fun (l : List Int) => p11 :: l) ((fun (l : List Int) => p12 :: l) ((fun (l : List Int) => p13 :: l) ((fun (l : List Int) => p14 :: l) ((fun (l : List Int) => p15 :: l) [])))))))))))))))) ∧ List.length ((fun (l : List Int) => p0 :: l) ((fun (l : List Int) => p1 :: l) ((fun (l : List Int) => p2 :: l) ((fun (l : List Int) => p3 :: l) ((fun (l : List Int) => p4 :: l) ((fun (l : List Int) => p5 :: l) ((fun (l : List Int) => p6 :: l) ((fun (l : List Int) => p7 :: l) ((fun (l : List Int) => p8 :: l) ((fun (l : List Int) => p9 :: l) ((fun (l : List Int) => p10 :: l) ((fun (l : List Int) => p11 :: l) ((fun (l : List Int) => p12 :: l) ((fun (l : List Int) => p13 :: l) ((fun (l : List Int) => p14 :: l) ((fun (l : List Int) => p15 :: l) [])))))))))))))))) = (16 : Nat) - (0 : Nat) ∧ (16 : Nat) - (0 : Nat) ≤ (16 : Nat) ∧ (0 : Int) ≤ n_3 ∧ n_3 ≤ (128 : Int)) ∧ R (AV.bo (B [p0, p1, p2, p3, p4, p5, p6, p7, p8, p9, p10, p11, p12, p13, p14, p15] n_3)) [Blk.cells [AV.i IntKind.u8 p0, AV.i IntKind.u8 p1, AV.i IntKind.u8 p2, AV.i IntKind.u8 p3, AV.i IntKind.u8 p4, AV.i IntKind.u8 p5, AV.i IntKind.u8 p6, AV.i IntKind.u8 p7, AV.i IntKind.u8 p8, AV.i IntKind.u8 p9, AV.i IntKind.u8 p10, AV.i IntKind.u8 p11, AV.i IntKind.u8 p12, AV.i IntKind.u8 p13, AV.i IntKind.u8 p14, AV.i IntKind.u8 p15, AV.i IntKind.i64 n] true]) (R (AV.bo false) [Blk.cells [AV.i IntKind.u8 p0, AV.i IntKind.u8 p1, AV.i IntKind.u8 p2, AV.i IntKind.u8 p3, AV.i IntKind.u8 p4, AV.i IntKind.u8 p5, AV.i IntKind.u8 p6, AV.i IntKind.u8 p7, AV.i IntKind.u8 p8, AV.i IntKind.u8 p9, AV.i IntKind.u8 p10, AV.i IntKind.u8 p11, AV.i IntKind.u8 p12, AV.i IntKind.u8 p13, AV.i IntKind.u8 p14, AV.i IntKind.u8 p15, AV.i IntKind.i64 n] true])) (R (AV.bo false) [Blk.cells [AV.i IntKind.u8 p0, AV.i IntKind.u8 p1, AV.i IntKind.u8 p2, AV.i IntKind.u8 p3, AV.i IntKind.u8 p4, AV.i IntKind.u8 p5, AV.i IntKind.u8 p6, AV.i IntKind.u8 p7, AV.i IntKind.u8 p8, AV.i IntKind.u8 p9, AV.i IntKind.u8 p10, AV.i IntKind.u8 p11, AV.i IntKind.u8 p12, AV.i IntKind.u8 p13, AV.i IntKind.u8 p14, AV.i IntKind.u8 p15, AV.i IntKind.i64 n] true])) := by kernel_rfl
theorem vc49 (B : List Int → Int → Bool) (p0 p1 p2 p3 n : Int) (R : AV → Hp → Prop) : (wpFn P (tcons 68 (tbare B) tnil) noW noL 0 Go.Proofs.Tryd.f49 [.ag [.i .u8 p0, .i .u8 p1, .i .u8 p2, .i .u8 p3, .i .i64 n]] [] R) = (∃ (n_1 : Int), Holds ([AV.i IntKind.u8 p0, AV.i IntKind.u8 p1, AV.i IntKind.u8 p2, AV.i IntKind.u8 p3, AV.i IntKind.i64 n][(4 : Nat)]? = some (AV.i IntKind.i64 n_1)) ∧ br (decide (n_1 ≥ (0 : Int))) (∃ (n_2 : Int), Holds ([AV.i IntKind.u8 p0, AV.i IntKind.u8 p1, AV.i IntKind.u8 p2, AV.i IntKind.u8 p3, AV.i IntKind.i64 n][(4 : Nat)]? = some (AV.i IntKind.i64 n_2)) ∧ br (decide (n_2 ≤ (32 : Int))) (∃ (n_3 : Int), Holds ([AV.i IntKind.u8 p0, AV.i IntKind.u8 p1, AV.i IntKind.u8 p2, AV.i IntKind.u8 p3, AV.i IntKind.i64 n][(4 : Nat)]? = some (AV.i IntKind.i64 n_3)) ∧ Holds (okb ((fun (l : List Int) => p0 :: l) ((fun (l : List Int) => p1 :: l) ((fun (l : List Int) => p2 :: l) ((fun (l : List Int) => p3 :: l) [])))) ∧ List.length ((fun (l : List Int) => p0 :: l) ((fun (l : List Int) => p1 :: l) ((fun (l : List Int) => p2 :: l) ((fun (l : List Int) => p3 :: l) [])))) = (4 : Nat) - (0 : Nat) ∧ (4 : Nat) - (0 : Nat) ≤ (16 : Nat) ∧ (0 : Int) ≤ n_3 ∧ n_3 ≤ (128 : Int)) ∧ R (AV.bo (B [p0, p1, p2, p3] n_3)) [Blk.cells [AV.i IntKind.u8 p0, AV.i IntKind.u8 p1, AV.i IntKind.u8 p2, AV.i IntKind.u8 p3, AV.i IntKind.i64 n] true]) (R (AV.bo false) [Blk.cells [AV.i IntKind.u8 p0, AV.i IntKind.u8 p1, AV.i IntKind.u8 p2, AV.i IntKind.u8 p3, AV.i IntKind.i64 n] true])) (R (AV.bo false) [Blk.cells [AV.i IntKind.u8 p0, AV.i IntKind.u8 p1, AV.i IntKind.u8 p2, AV.i IntKind.u8 p3, AV.i IntKind.i64 n] true])) := by kernel_rfl
theorem vc20 (B : List Int → Int → Bool) (H : List Int → List Int → Int → Bool) (p0 p1 p2 p3 p4 p5 p6 p7 p8 p9 p10 p11 p12 p13 p14 p15 n x0 x1 x2 x3 x4 x5 x6 x7 x8 x9 x10 x11 x12 x13 x14 x15 : Int) (R : AV → Hp → Prop) : (wpFn P (tcons 47 (tright 16 B) (tcons 48 (tholds H) tnil)) noW noL 0 Go.Proofs.Tryd.f20 [.ag [.i .u8 p0, .i .u8 p1, .i .u8 p2, .i .u8 p3, .i .u8 p4, .i .u8 p5, .i .u8 p6, .i .u8 p7, .i .u8 p8, .i .u8 p9, .i .u8 p10, .i .u8 p11, .i .u8 p12, .i .u8 p13, .i .u8 p14, .i .u8 p15, .i .i64 n], .ag [.i .u8 x0, .i .u8 x1, .i .u8 x2, .i .u8 x3, .i .u8 x4, .i .u8 x5, .i .u8 x6, .i .u8 x7, .i .u8 x8, .i .u8 x9, .i .u8 x10, .i .u8 x11, .i .u8 x12, .i .u8 x13, .i .u8 x14, .i .u8 x15]] [] R) = (Holds (okb ((fun (l : List Int) => p0 :: l) ((fun (l : List Int) => p1 :: l) ((fun (l : List Int) => p2 :: l) ((fun (l : List Int) => p3 :: l) ((fun (l : List Int) => p4 :: l) ((fun (l : List Int) => p5 :: l) ((fun (l : List Int) => p6 :: l) ((fun (l : List Int) => p7 :: l) ((fun (l : List Int) => p8 :: l) ((fun (l : List Int) => p9 :: l) ((fun (l : List Int) => p10 :: l) ((fun (l : List Int) => p11 :: l) ((fun (l : List Int) => p12 :: l) ((fun (l : List Int) => p13 :: l) ((fun (l : List Int) => p14 :: l) ((fun (l : List Int) => p15 :: l) [])))))))))))))))) ∧ List.length ((fun (l : List Int) => p0 :: l) ((fun (l : List Int) => p1 :: l) ((fun (l : List Int) => p2 :: l) ((fun (l : List Int) => p3 :: l) ((fun (l : List Int) => p4 :: l) ((fun (l : List Int) => p5 :: l) ((fun (l : List Int) => p6 :: l) ((fun (l : List Int) => p7 :: l) ((fun (l : List Int) => p8 :: l) ((fun (l : List Int) => p9 :: l) ((fun (l : List Int) => p10 :: l) ((fun (l : List Int) => p11 :: l) ((fun (l : List Int) => p12 :: l) ((fun (l : List Int) => p13 :: l) ((fun (l : List Int) => p14 :: l) ((fun (l : List Int) => p15 :: l) [])))))))))))))))) = (16 : Nat)) ∧ br (B [p0, p1, p2, p3, p4, p5, p6, p7, p8, p9, p10, p11, p12, p13, p14, p15] n) (∃ (n_1 : Int), Holds ([AV.i IntKind.u8 p0, AV.i IntKind.u8 p1, AV.i IntKind.u8 p2, AV.i IntKind.u8 p3, AV.i IntKind.u8 p4, AV.i IntKind.u8 p5, AV.i IntKind.u8 p6, AV.i IntKind.u8 p7, AV.i IntKind.u8 p8, AV.i IntKind.u8 p9, AV.i IntKind.u8 p10, AV.i IntKind.u8 p11, AV.i IntKind.u8 p12, AV.i IntKind.u8 p13, AV.i IntKind.u8 p14, AV.i IntKind.u8 p15, AV.i IntKind.i64 n][(16 : Nat)]? = some (AV.i IntKind.i64 n_1)) ∧ Holds (okb ((fun (l : List Int) => p0 :: l) ((fun (l : List Int) => p1 :: l) ((fun (l : List Int) => p2 :: l) ((fun (l : List Int) => p3 :: l) ((fun (l : List Int) => p4 :: l) ((fun (l : List Int) => p5 :: l) ((fun (l : List Int) => p6 :: l) ((fun (l : List Int) => p7 :: l) ((fun (l : List Int) => p8 :: l) ((fun (l : List Int) => p9 :: l) ((fun (l : List Int) => p10 :: l) ((fun (l : List Int) => p11 :: l) ((fun (l : List Int) => p12 :: l) ((fun (l : List Int) => p13 :: l) ((fun (l : List Int) => p14 :: l) ((fun (l : List Int) => p15 :: l) [])))))))))))))))) ∧ okb ((fun (l : List Int) => x0 :: l) ((fun (l : List Int) => x1 :: l) ((fun (l : List Int) => x2 :: l) ((fun (l : List Int) => x3 :: l) ((fun (l : List Int) => x4 :: l) ((fun (l : List Int) => x5 :: l) ((fun (l : List Int) => x6 :: l) ((fun (l : List Int) => x7 :: l) ((fun (l : List Int) => x8 :: l) ((fun (l : List Int) => x9 :: l) ((fun (l : List Int) => x10 :: l) ((fun (l : List Int) => x11 :: l) ((fun (l : List Int) => x12 :: l) ((fun (l : List Int) => x13 :: l) ((fun (l : List Int) => x14 :: l) ((fun (l : List Int) => x15 :: l) [])))))))))))))))) ∧ List.length ((fun (l : List Int) => p0 :: l) ((fun (l : List Int) => p1 :: l) ((fun (l : List Int) => p2 :: l) ((fun (l : List Int) => p3 :: l) ((fun (l : List Int) => p4 :: l) ((fun (l : List Int) => p5 :: l) ((fun (l : List Int) => p6 :: l) ((fun (l : List Int) => p7 :: l) ((fun (l : List Int) => p8 :: l) ((fun (l : List Int) => p9 :: l) ((fun (l : List Int) => p10 :: l) ((fun (l : List Int) => p11 :: l) ((fun (l : List Int) => p12 :: l) ((fun (l : List Int) => p13 :: l) ((fun (l : List Int) => p14 :: l) ((fun (l : List Int) => p15 :: l) [])))))))))))))))) = (16 : Nat) - (0 : Nat) ∧ List.length ((fun (l : List Int) => x0 :: l) ((fun (l : List Int) => x1 :: l) ((fun (l : List Int) => x2 :: l) ((fun (l : List Int) => x3 :: l) ((fun (l : List Int) => x4 :: l) ((fun (l : List Int) => x5 :: l) ((fun (l : List Int) => x6 :: l) ((fun (l : List Int) => x7 :: l) ((fun (l : List Int) => x8 :: l) ((fun (l : List Int) => x9 :: l) ((fun (l : List Int) => x10 :: l) ((fun (l : List Int) => x11 :: l) ((fun (l : List Int) => x12 :: l) ((fun (l : List Int) => x13 :: l) ((fun (l : List Int) => x14 :: l) ((fun (l : List Int) => x15 :: l) [])))))))))))))))) = (16 : Nat) - (0 : Nat) ∧ (16 : Nat) - (0 : Nat) = (16 : Nat) - (0 : Nat) ∧ (16 : Nat) - (0 : Nat) ≤ (16 : Nat) ∧ (0 : Int) ≤ n_1 ∧ n_1 ≤ (128 : Int) ∧ (0 : Nat) ≠ (1 : Nat)) ∧ R (AV.bo (H [p0, p1, p2, p3, p4, p5, p6, p7, p8, p9, p10, p11, p12, p13, p14, p15] [x0, x1, x2, x3, x4, x5, x6, x7, x8, x9, x10, x11, x12, x13, x14, x15] n_1)) [Blk.cells [AV.i IntKind.u8 p0, AV.i IntKind.u8 p1, AV.i IntKind.u8 p2, AV.i IntKind.u8 p3, AV.i IntKind.u8 p4, AV.i IntKind.u8 p5, AV.i IntKind.u8 p6, AV.i IntKind.u8 p7, AV.i IntKind.u8 p8, AV.i IntKind.u8 p9, AV.i IntKind.u8 p10, AV.i IntKind.u8 p11, AV.i IntKind.u8 p12, AV.i IntKind.u8 p13, AV.i IntKind.u8 p14, AV.i IntKind.u8 p15, AV.i IntKind.i64 n] true, Blk.cells [AV.i IntKind.u8 x0, AV.i IntKind.u8 x1, AV.i IntKind.u8 x2, AV.i IntKind.u8 x3, AV.i IntKind.u8 x4, AV.i IntKind.u8 x5, AV.i IntKind.u8 x6, AV.i IntKind.u8 x7, AV.i IntKind.u8 x8, AV.i IntKind.u8 x9, AV.i IntKind.u8 x10, AV.i IntKind.u8 x11, AV.i IntKind.u8 x12, AV.i IntKind.u8 x13, AV.i IntKind.u8 x14, AV.i IntKind.u8 x15] true]) (R (AV.bo false) [Blk.cells [AV.i IntKind.u8 p0, AV.i IntKind.u8 p1, AV.i IntKind.u8 p2, AV.i IntKind.u8 p3, AV.i IntKind.u8 p4, AV.i IntKind.u8 p5, AV.i IntKind.u8 p6, AV.i IntKind.u8 p7, AV.i IntKind.u8 p8, AV.i IntKind.u8 p9, AV.i IntKind.u8 p10, AV.i IntKind.u8 p11, AV.i IntKind.u8 p12, AV.i IntKind.u8 p13, AV.i IntKind.u8 p14, AV.i IntKind.u8 p15, AV.i IntKind.i64 n] true, Blk.cells [AV.i IntKind.u8 x0, AV.i IntKind.u8 x1, AV.i IntKind.u8 x2, AV.i IntKind.u8 x3, AV.i IntKind.u8 x4, AV.i IntKind.u8 x5, AV.i IntKind.u8 x6, AV.i IntKind.u8 x7, AV.i IntKind.u8 x8, AV.i IntKind.u8 x9, AV.i IntKind.u8 x10, AV.i IntKind.u8 x11, AV.i IntKind.u8 x12, AV.i IntKind.u8 x13, AV.i IntKind.u8 x14, AV.i IntKind.u8 x15] true])) := by kernel_rfl
theorem vc22 (B : List Int → Int → Bool) (H : List Int → List Int → Int → Bool) (p0 p1 p2 p3 n x0 x1 x2 x3 : Int) (R : AV → Hp → Prop) : (wpFn P (tcons 49 (tright 4 B) (tcons 48 (tholds H) tnil)) noW noL 0 Go.Proofs.Tryd.f22 [.ag [.i .u8 p0, .i .u8 p1, .i .u8 p2, .i .u8 p3, .i .i64 n], .ag [.i .u8 x0, .i .u8 x1, .i .u8 x2, .i .u8 x3]] [] R) = (Holds (okb ((fun (l : List Int) => p0 :: l) ((fun (l : List Int) => p1 :: l) ((fun (l : List Int) => p2 :: l) ((fun (l : List Int) => p3 :: l) [])))) ∧ List.length ((fun (l : List Int) => p0 :: l) ((fun (l : List Int) => p1 :: l) ((fun (l : List Int) => p2 :: l) ((fun (l : List Int) => p3 :: l) [])))) = (4 : Nat)) ∧ br (B [p0, p1, p2, p3] n) (∃ (n_1 : Int), Holds ([AV.i IntKind.u8 p0, AV.i IntKind.u8 p1, AV.i IntKind.u8 p2, AV.i IntKind.u8 p3, AV.i IntKind.i64 n][(4 : Nat)]? = some (AV.i IntKind.i64 n_1)) ∧ Holds (okb ((fun (l : List Int) => p0 :: l) ((fun (l : List Int) => p1 :: l) ((fun (l : List Int) => p2 :: l) ((fun (l : List Int) => p3 :: l) [])))) ∧ okb ((fun (l : List Int) => x0 :: l) ((fun (l : List Int) => x1 :: l) ((fun (l : List Int) => x2 :: l) ((fun (l : List Int) => x3 :: l) [])))) ∧ List.length ((fun (l : List Int) => p0 :: l) ((fun (l : List Int) => p1 :: l) ((fun (l : List Int) => p2 :: l) ((fun (l : List Int) => p3 :: l) [])))) = (4 : Nat) - (0 : Nat) ∧ List.length ((fun (l : List Int) => x0 :: l) ((fun (l : List Int) => x1 :: l) ((fun (l : List Int) => x2 :: l) ((fun (l : List Int) => x3 :: l) [])))) = (4 : Nat) - (0 : Nat) ∧ (4 : Nat) - (0 : Nat) = (4 : Nat) - (0 : Nat) ∧ (4 : Nat) - (0 : Nat) ≤ (16 : Nat) ∧ (0 : Int) ≤ n_1 ∧ n_1 ≤ (128 : Int) ∧ (0 : Nat) ≠ (1 : Nat)) ∧ R (AV.bo (H [p0, p1, p2, p3] [x0, x1, x2, x3] n_1)) [Blk.cells [AV.i IntKind.u8 p0, AV.i IntKind.u8 p1, AV.i IntKind.u8 p2, AV.i IntKind.u8 p3, AV.i IntKind.i64 n] true, Blk.cells [AV.i IntKind.u8 x0, AV.i IntKind.u8 x1, AV.i IntKind.u8 x2, AV.i IntKind.u8 x3] true]) (R (AV.bo false) [Blk.cells [AV.i IntKind.u8 p0, AV.i IntKind.u8 p1, AV.i IntKind.u8 p2, AV.i IntKind.u8 p3, AV.i IntKind.i64 n] true, Blk.cells [AV.i IntKind.u8 x0, AV.i IntKind.u8 x1, AV.i IntKind.u8 x2, AV.i IntKind.u8 x3] true])) := by kernel_rfl
theorem numsOf_eq : ∀ {c : List AV} {l : List Int}, numsOf c = some l → c = l.map (AV.i .u8)
  | [], l, h => by cases h; rfl
  | .i .u8 n :: r, l, h => by
    obtain ⟨l', h1, rfl⟩ := Option.map_eq_some_iff.1 (show (numsOf r).map (fun l => n :: l) = some l from h)
    rw [List.map_cons, ← numsOf_eq h1]
theorem numsOf_map : ∀ (l : List Int), numsOf (l.map (AV.i .u8)) = some l
  | [] => rfl
  | x :: l => by simp only [List.map_cons, numsOf, numsOf_map l, Option.map_some]
theorem cell_at {c : List AV} {off len i : Nat} {l : List Int} (h : (c.drop off).take len = l.map (AV.i .u8)) (hl : l.length = len) (hi : i < len) : c[off + i * 1]? = some (.i .u8 (l.getD i 0)) := by
  have e : ((c.drop off).take len)[i]? = (l.map (AV.i .u8))[i]? := by rw [h]
  rw [List.getElem?_take_of_lt hi, List.getElem?_drop] at e
  rw [Nat.mul_one, e, List.getElem?_map, List.getD_eq_getElem?_getD, List.getElem?_eq_getElem (by omega)]
  rfl
theorem rens_cell {J : List Nat} {c : List AV} {j : Nat} {k : IntKind} {n : Int} (h : c[j]? = some (.i k n)) : (rens J c)[j]? = some (.i k n) := by
  rw [rens_eq_map, List.getElem?_map, h]; rfl
theorem getD_cells {h : Hp} {i : Nat} {c : List AV} {wr : Bool} (e : h.getD i .dead = .cells c wr) : h[i]? = some (.cells c wr) := by
  rw [List.getD_eq_getElem?_getD] at e
  cases k : h[i]? with
  | none => rw [k] at e; cases e
  | some B => rw [k] at e; rw [show B = .cells c wr from e]
/-- bare. -/
inductive Sbare (B : List Int → Int → Bool) : List AV → Hp → AV → Hp → Prop
  | mk {h : Hp} {id off len : Nat} {cap : Option Nat} {n : Int} {c : List AV} {wr : Bool} {l : List Int} (e : h.getD id .dead = .cells c wr) (hl : numsOf ((c.drop off).take len) = some l) (hk : okb l ∧ l.length = len ∧ len ≤ 16 ∧ 0 ≤ n ∧ n ≤ 128) :
      Sbare B [.sl id off len 1 cap, .i .i64 n] h (.bo (B l n)) h
theorem Sbare.det {B : List Int → Int → Bool} : Det (Sbare B) := by
  intro args h r h' r2 h2 x y
  cases x with
  | mk e hl hk => cases y with
    | mk e' hl' hk' => rw [e] at e'; cases e'; rw [hl] at hl'; cases hl'; exact ⟨rfl, rfl⟩
theorem tbare_f {B : List Int → Int → Bool} : FollowsF (tbare B) (Cof (Sbare B)) := by
  refine follows_of Sbare.det fun args h K hk => ?_
  unfold tbare at hk
  split at hk
  · split at hk
    · rename_i e
      obtain ⟨l, hl, h1, h2⟩ := optQ_spec hk
      exact ⟨_, _, .mk e hl h1.out, h2⟩
    · exact hk.elim
  · exact hk.elim
inductive Sholds (B : List Int → List Int → Int → Bool) : List AV → Hp → AV → Hp → Prop
  | mk {h : Hp} {ia oa la ib ob lb : Nat} {ca cb : Option Nat} {n : Int} {c d : List AV} {wr wr' : Bool} {x y : List Int} (e : h.getD ia .dead = .cells c wr) (f : h.getD ib .dead = .cells d wr') (hx : numsOf ((c.drop oa).take la) = some x) (hy : numsOf ((d.drop ob).take lb) = some y)
      (hk : okb x ∧ okb y ∧ x.length = la ∧ y.length = la ∧ lb = la ∧ la ≤ 16 ∧ 0 ≤ n ∧ n ≤ 128 ∧ ia ≠ ib) : Sholds B [.sl ia oa la 1 ca, .sl ib ob lb 1 cb, .i .i64 n] h (.bo (B x y n)) h
theorem Sholds.det {B : List Int → List Int → Int → Bool} : Det (Sholds B) := by
  intro args h r h' r2 h2 x y
  cases x with
  | mk e f hx hy hk => cases y with
    | mk e' f' hx' hy' hk' => rw [e] at e'; cases e'; rw [f] at f'; cases f'; rw [hx] at hx'; cases hx'; rw [hy] at hy'; cases hy'; exact ⟨rfl, rfl⟩
theorem tholds_f {B : List Int → List Int → Int → Bool} : FollowsF (tholds B) (Cof (Sholds B)) := by
  refine follows_of Sholds.det fun args h K hk => ?_
  unfold tholds at hk
  split at hk
  · split at hk
    · rename_i e f
      obtain ⟨x, hx, hk⟩ := optQ_spec hk
      obtain ⟨y, hy, h1, h2⟩ := optQ_spec hk
      exact ⟨_, _, .mk e f hx hy h1.out, h2⟩
    · exact hk.elim
  · exact hk.elim
theorem fn68 : fnOk1 P noW 68 Go.Proofs.Tryd.f68 := ⟨Go.Proofs.Tryd.func68, by kernel_rfl, by kernel_rfl, by kernel_rfl⟩
theorem fn48 : fnOk1 P noW 48 Go.Proofs.Tryd.f48 := ⟨Go.Proofs.Tryd.func48, by kernel_rfl, by kernel_rfl, by kernel_rfl⟩
theorem fn47 : fnOk1 P noW 47 Go.Proofs.Tryd.f47 := ⟨Go.Proofs.Tryd.func47, by kernel_rfl, by kernel_rfl, by kernel_rfl⟩
theorem fn49 : fnOk1 P noW 49 Go.Proofs.Tryd.f49 := ⟨Go.Proofs.Tryd.func49, by kernel_rfl, by kernel_rfl, by kernel_rfl⟩
theorem fn20 : fnOk1 P noW 20 Go.Proofs.Tryd.f20 := ⟨Go.Proofs.Tryd.func20, by kernel_rfl, by kernel_rfl, by kernel_rfl⟩
theorem fn22 : fnOk1 P noW 22 Go.Proofs.Tryd.f22 := ⟨Go.Proofs.Tryd.func22, by kernel_rfl, by kernel_rfl, by kernel_rfl⟩
set_option maxRecDepth 100000 in
theorem bare_s : SoundF P 68 (Cof (Sbare Bv)) := by
  refine SoundF.flat (follows_nil _) (noEnv_sound _) mo fn68 fun args h r h' he => ?_
  have hx := Cof_spec he
  cases hx with
  | @mk _ id off len cap n c wr l e hl hk =>
    have e := getD_cells e
    have hc := numsOf_eq hl
    refine ⟨rfl, rfl, [id], head68 off len cap n (rens [id] c), 1, by simpa using (List.getElem?_eq_some_iff.1 e).1, ?_⟩
    rw [show rens [id] [.sl id off len 1 cap, .i .i64 n] = [.sl 0 off len 1 cap, .i .i64 n] from by simp [rens, ren, posOf], show pickH h [id] = [.cells (rens [id] c) false] from by simp [pickH, renB, e]]
    exact run68 hk.2.1 hk.2.2.1 hk.2.2.2.1 hk.2.2.2.2 hk.1 fun i hi => rens_cell (cell_at hc hk.2.1 hi)
set_option maxRecDepth 100000 in
theorem holds_s : SoundF P 48 (Cof (Sholds Hv)) := by
  refine SoundF.flat (follows_nil _) (noEnv_sound _) mo fn48 fun args h r h' he => ?_
  have hx := Cof_spec he
  cases hx with
  | @mk _ ia oa la ib ob lb ca cb n c d wr wr' x y e f hx hy hk =>
    have e := getD_cells e
    have f := getD_cells f
    have hc := numsOf_eq hx
    have hd := numsOf_eq hy
    obtain ⟨k1, k2, k3, k4, rfl, k6, k7, k8, k9⟩ := hk
    refine ⟨rfl, rfl, [ia, ib], head48 oa ob lb lb ca cb n (rens [ia, ib] c) (rens [ia, ib] d), 2, by simpa using ⟨(List.getElem?_eq_some_iff.1 e).1, (List.getElem?_eq_some_iff.1 f).1⟩, ?_⟩
    rw [show rens [ia, ib] [.sl ia oa lb 1 ca, .sl ib ob lb 1 cb, .i .i64 n] = [.sl 0 oa lb 1 ca, .sl 1 ob lb 1 cb, .i .i64 n] from by simp [rens, ren, posOf, k9], show pickH h [ia, ib] = [.cells (rens [ia, ib] c) false, .cells (rens [ia, ib] d) false] from by simp [pickH, renB, e, f]]
    exact run48 k3 rfl k4 k6 k7 k8 k1 k2 (fun i hi => rens_cell (cell_at hc k3 hi)) (fun i hi => rens_cell (cell_at hd k4 hi))
def Rv (mx : Int) (l : List Int) (n : Int) : Bool := decide (n ≥ 0) && (decide (n ≤ mx) && Bv l n)
def mkNet (q : List Int × Int) : List AV := [.ag (q.1.map (AV.i .u8) ++ [.i .i64 q.2])]
theorem map_u8_inj : ∀ {x y : List Int}, x.map (AV.i .u8) = y.map (AV.i .u8) → x = y := by
  intro x y h
  have := congrArg numsOf h
  rw [numsOf_map, numsOf_map] at this
  exact Option.some.inj this
theorem mkNet_inj (x y : List Int × Int) (h : mkNet x = mkNet y) : x = y := by
  obtain ⟨a, n⟩ := x; obtain ⟨b, m⟩ := y
  simp only [mkNet, List.cons.injEq, AV.ag.injEq, and_true] at h
  obtain ⟨h1, h2⟩ := List.append_inj' h rfl
  simp only [List.cons.injEq, AV.i.injEq, true_and, and_true] at h2
  rw [map_u8_inj h1, h2]
theorem tright_f {B : List Int → Int → Bool} {k : Nat} : FollowsF (tright k B) (Cof (Splain mkNet (fun q => okb q.1 ∧ q.1.length = k) fun q => .bo (B q.1 q.2))) := by
  refine follows_of (Splain.det mkNet_inj) fun args h K hk => ?_
  unfold tright at hk
  split at hk
  · rename_i xs
    split at hk
    · rename_i n hn
      obtain ⟨l, hl, h1, h2⟩ := optQ_spec hk
      refine ⟨_, _, ⟨rfl, (l, n), ?_, h1.out, rfl⟩, h2⟩
      obtain ⟨ys, rfl⟩ := List.getLast?_eq_some_iff.1 hn
      rw [List.dropLast_concat] at hl
      rw [mkNet, numsOf_eq hl]
    · exact hk.elim
  · exact hk.elim
theorem Rv_n {mx : Int} {l : List Int} {n : Int} (h : Rv mx l n = true) : 0 ≤ n ∧ n ≤ mx := by
  simp only [Rv, Bool.and_eq_true, decide_eq_true_eq] at h
  exact ⟨h.1, h.2.1⟩
/-- A prefix and an address. -/
def mkNetA (q : List Int × Int × List Int) : List AV := [.ag (q.1.map (AV.i .u8) ++ [.i .i64 q.2.1]), .ag (q.2.2.map (AV.i .u8))]
theorem mkNetA_inj (x y : List Int × Int × List Int) (h : mkNetA x = mkNetA y) : x = y := by
  obtain ⟨a, n, c⟩ := x; obtain ⟨b, m, d⟩ := y
  simp only [mkNetA, List.cons.injEq, AV.ag.injEq, and_true] at h
  obtain ⟨h1, h3⟩ := h
  obtain ⟨h1, h2⟩ := List.append_inj' h1 rfl
  simp only [List.cons.injEq, AV.i.injEq, true_and, and_true] at h2
  rw [map_u8_inj h1, h2, map_u8_inj h3]
/-- Does a prefix hold an address? -/
def tnet (k : Nat) (B : List Int → Int → List Int → Bool) (args : List AV) (h : Hp) (K : AV → Hp → Prop) : Prop := match args with
  | [.ag xs, .ag ys] => match xs.getLast? with
    | some (.i .i64 n) => optQ (numsOf xs.dropLast) fun l => optQ (numsOf ys) fun a => Holds (okb l ∧ l.length = k ∧ okb a ∧ a.length = k) ∧ K (.bo (B l n a)) h
    | _ => False
  | _ => False
theorem tnet_f {B : List Int → Int → List Int → Bool} {k : Nat} : FollowsF (tnet k B) (Cof (Splain mkNetA (fun q => okb q.1 ∧ q.1.length = k ∧ okb q.2.2 ∧ q.2.2.length = k) fun q => .bo (B q.1 q.2.1 q.2.2))) := by
  refine follows_of (Splain.det mkNetA_inj) fun args h K hk => ?_
  unfold tnet at hk
  split at hk
  · rename_i xs ys
    split at hk
    · rename_i n hn
      obtain ⟨l, hl, hk⟩ := optQ_spec hk
      obtain ⟨a, ha, h1, h2⟩ := optQ_spec hk
      refine ⟨_, _, ⟨rfl, (l, n, a), ?_, h1.out, rfl⟩, h2⟩
      obtain ⟨zs, rfl⟩ := List.getLast?_eq_some_iff.1 hn
      rw [List.dropLast_concat] at hl
      rw [mkNetA, numsOf_eq hl, ← numsOf_eq ha]
    · exact hk.elim
  · exact hk.elim
theorem run47 {p0 p1 p2 p3 p4 p5 p6 p7 p8 p9 p10 p11 p12 p13 p14 p15 n : Int} (hk : okb [p0, p1, p2, p3, p4, p5, p6, p7, p8, p9, p10, p11, p12, p13, p14, p15]) : Holds (wpFn P (tcons 68 (tbare Bv) tnil) noW noL 0 Go.Proofs.Tryd.f47 [.ag [.i .u8 p0, .i .u8 p1, .i .u8 p2, .i .u8 p3, .i .u8 p4, .i .u8 p5, .i .u8 p6, .i .u8 p7, .i .u8 p8, .i .u8 p9, .i .u8 p10, .i .u8 p11, .i .u8 p12, .i .u8 p13, .i .u8 p14, .i .u8 p15, .i .i64 n]] [] fun v _ => v = .bo (Rv 128 [p0, p1, p2, p3, p4, p5, p6, p7, p8, p9, p10, p11, p12, p13, p14, p15] n)) := by
  refine ⟨?_⟩
  rw [vc47]
  refine ⟨n, ⟨rfl⟩, br_intro (fun h0 => ⟨n, ⟨rfl⟩, br_intro (fun h1 => ⟨n, ⟨rfl⟩, ⟨⟨hk, rfl, by decide, ?_, ?_⟩⟩, ?_⟩) (fun h1 => ?_)⟩) (fun h0 => ?_)⟩
  · simpa using h0
  · have := of_decide_eq_true h1; omega
  · rw [Rv, h0, h1]; rfl
  · rw [Rv, h0, h1]; rfl
  · rw [Rv, h0]; rfl
set_option maxRecDepth 100000 in
theorem right47_s : SoundF P 47 (Cof (Splain mkNet (fun q => okb q.1 ∧ q.1.length = 16) fun q => .bo (Rv 128 q.1 q.2))) := by
  refine SoundF.plainH (follows_cons tbare_f (follows_nil _)) (with1_sound fn68.ok bare_s (noEnv_sound _)) mo fn47 (fun q => ?_) (fun _ => rfl) noL ?_
  · show AV.unders 0 [.ag (q.1.map (AV.i .u8) ++ [.i .i64 q.2])] = true
    simp only [AV.unders, AV.under, unders_append, Bool.and_true]
    exact unders_map 0 _ (fun _ => rfl) _
  · rintro ⟨l, n⟩ ⟨hk, hl⟩
    match l, hl with
    | [p0, p1, p2, p3, p4, p5, p6, p7, p8, p9, p10, p11, p12, p13, p14, p15], _ => exact run47 hk
theorem run20 {p0 p1 p2 p3 p4 p5 p6 p7 p8 p9 p10 p11 p12 p13 p14 p15 n x0 x1 x2 x3 x4 x5 x6 x7 x8 x9 x10 x11 x12 x13 x14 x15 : Int} (hk : okb [p0, p1, p2, p3, p4, p5, p6, p7, p8, p9, p10, p11, p12, p13, p14, p15]) (hx : okb [x0, x1, x2, x3, x4, x5, x6, x7, x8, x9, x10, x11, x12, x13, x14, x15]) : Holds (wpFn P (tcons 47 (tright 16 (Rv 128)) (tcons 48 (tholds Hv) tnil)) noW noL 0 Go.Proofs.Tryd.f20 [.ag [.i .u8 p0, .i .u8 p1, .i .u8 p2, .i .u8 p3, .i .u8 p4, .i .u8 p5, .i .u8 p6, .i .u8 p7, .i .u8 p8, .i .u8 p9, .i .u8 p10, .i .u8 p11, .i .u8 p12, .i .u8 p13, .i .u8 p14, .i .u8 p15, .i .i64 n], .ag [.i .u8 x0, .i .u8 x1, .i .u8 x2, .i .u8 x3, .i .u8 x4, .i .u8 x5, .i .u8 x6, .i .u8 x7, .i .u8 x8, .i .u8 x9, .i .u8 x10, .i .u8 x11, .i .u8 x12, .i .u8 x13, .i .u8 x14, .i .u8 x15]] [] fun v _ => v = .bo (Rv 128 [p0, p1, p2, p3, p4, p5, p6, p7, p8, p9, p10, p11, p12, p13, p14, p15] n && Hv [p0, p1, p2, p3, p4, p5, p6, p7, p8, p9, p10, p11, p12, p13, p14, p15] [x0, x1, x2, x3, x4, x5, x6, x7, x8, x9, x10, x11, x12, x13, x14, x15] n)) := by
  refine ⟨?_⟩
  rw [vc20]
  refine ⟨⟨hk, rfl⟩, br_intro (fun h => ⟨n, ⟨rfl⟩, ⟨⟨hk, hx, rfl, rfl, rfl, by decide, (Rv_n h).1, ?_, by decide⟩⟩, ?_⟩) (fun h => ?_)⟩
  · have := (Rv_n h).2; omega
  · rw [h]; rfl
  · rw [h]; rfl
set_option maxRecDepth 100000 in
theorem holds20_s : SoundF P 20 (Cof (Splain mkNetA (fun q => okb q.1 ∧ q.1.length = 16 ∧ okb q.2.2 ∧ q.2.2.length = 16) fun q => .bo (Rv 128 q.1 q.2.1 && Hv q.1 q.2.2 q.2.1))) := by
  refine SoundF.plainH (follows_cons tright_f (follows_cons tholds_f (follows_nil _))) (with1_sound fn47.ok right47_s (with1_sound fn48.ok holds_s (noEnv_sound _))) mo fn20 (fun q => ?_) (fun _ => rfl) noL ?_
  · show AV.unders 0 [.ag (q.1.map (AV.i .u8) ++ [.i .i64 q.2.1]), .ag (q.2.2.map (AV.i .u8))] = true
    simp only [AV.unders, AV.under, unders_append, Bool.and_true, Bool.and_eq_true]
    exact ⟨unders_map 0 _ (fun _ => rfl) _, unders_map 0 _ (fun _ => rfl) _⟩
  · rintro ⟨l, n, a⟩ ⟨hk, hl, hx, ha⟩
    match l, hl, a, ha with
    | [p0, p1, p2, p3, p4, p5, p6, p7, p8, p9, p10, p11, p12, p13, p14, p15], _, [x0, x1, x2, x3, x4, x5, x6, x7, x8, x9, x10, x11, x12, x13, x14, x15], _ => exact run20 hk hx
theorem run49 {p0 p1 p2 p3 n : Int} (hk : okb [p0, p1, p2, p3]) : Holds (wpFn P (tcons 68 (tbare Bv) tnil) noW noL 0 Go.Proofs.Tryd.f49 [.ag [.i .u8 p0, .i .u8 p1, .i .u8 p2, .i .u8 p3, .i .i64 n]] [] fun v _ => v = .bo (Rv 32 [p0, p1, p2, p3] n)) := by
  refine ⟨?_⟩
  rw [vc49]
  refine ⟨n, ⟨rfl⟩, br_intro (fun h0 => ⟨n, ⟨rfl⟩, br_intro (fun h1 => ⟨n, ⟨rfl⟩, ⟨⟨hk, rfl, by decide, ?_, ?_⟩⟩, ?_⟩) (fun h1 => ?_)⟩) (fun h0 => ?_)⟩
  · simpa using h0
  · have := of_decide_eq_true h1; omega
  · rw [Rv, h0, h1]; rfl
  · rw [Rv, h0, h1]; rfl
  · rw [Rv, h0]; rfl
set_option maxRecDepth 100000 in
theorem right49_s : SoundF P 49 (Cof (Splain mkNet (fun q => okb q.1 ∧ q.1.length = 4) fun q => .bo (Rv 32 q.1 q.2))) := by
  refine SoundF.plainH (follows_cons tbare_f (follows_nil _)) (with1_sound fn68.ok bare_s (noEnv_sound _)) mo fn49 (fun q => ?_) (fun _ => rfl) noL ?_
  · show AV.unders 0 [.ag (q.1.map (AV.i .u8) ++ [.i .i64 q.2])] = true
    simp only [AV.unders, AV.under, unders_append, Bool.and_true]
    exact unders_map 0 _ (fun _ => rfl) _
  · rintro ⟨l, n⟩ ⟨hk, hl⟩
    match l, hl with
    | [p0, p1, p2, p3], _ => exact run49 hk
theorem run22 {p0 p1 p2 p3 n x0 x1 x2 x3 : Int} (hk : okb [p0, p1, p2, p3]) (hx : okb [x0, x1, x2, x3]) : Holds (wpFn P (tcons 49 (tright 4 (Rv 32)) (tcons 48 (tholds Hv) tnil)) noW noL 0 Go.Proofs.Tryd.f22 [.ag [.i .u8 p0, .i .u8 p1, .i .u8 p2, .i .u8 p3, .i .i64 n], .ag [.i .u8 x0, .i .u8 x1, .i .u8 x2, .i .u8 x3]] [] fun v _ => v = .bo (Rv 32 [p0, p1, p2, p3] n && Hv [p0, p1, p2, p3] [x0, x1, x2, x3] n)) := by
  refine ⟨?_⟩
  rw [vc22]
  refine ⟨⟨hk, rfl⟩, br_intro (fun h => ⟨n, ⟨rfl⟩, ⟨⟨hk, hx, rfl, rfl, rfl, by decide, (Rv_n h).1, ?_, by decide⟩⟩, ?_⟩) (fun h => ?_)⟩
  · have := (Rv_n h).2; omega
  · rw [h]; rfl
  · rw [h]; rfl
set_option maxRecDepth 100000 in
theorem holds22_s : SoundF P 22 (Cof (Splain mkNetA (fun q => okb q.1 ∧ q.1.length = 4 ∧ okb q.2.2 ∧ q.2.2.length = 4) fun q => .bo (Rv 32 q.1 q.2.1 && Hv q.1 q.2.2 q.2.1))) := by
  refine SoundF.plainH (follows_cons tright_f (follows_cons tholds_f (follows_nil _))) (with1_sound fn49.ok right49_s (with1_sound fn48.ok holds_s (noEnv_sound _))) mo fn22 (fun q => ?_) (fun _ => rfl) noL ?_
  · show AV.unders 0 [.ag (q.1.map (AV.i .u8) ++ [.i .i64 q.2.1]), .ag (q.2.2.map (AV.i .u8))] = true
    simp only [AV.unders, AV.under, unders_append, Bool.and_true, Bool.and_eq_true]
    exact ⟨unders_map 0 _ (fun _ => rfl) _, unders_map 0 _ (fun _ => rfl) _⟩
  · rintro ⟨l, n, a⟩ ⟨hk, hl, hx, ha⟩
    match l, hl, a, ha with
    | [p0, p1, p2, p3], _, [x0, x1, x2, x3], _ => exact run22 hk hx
end Go.Proofs.YtohaalilplngnaaDoor.ClassRun
/- Addresses are cut -/
set_option linter.unusedVariables false
set_option linter.unusedSimpArgs false
open Go Go.Proofs.YtohaalilplngnaaDoor.Eng Go.RowKit
namespace Go.Proofs.YtohaalilplngnaaDoor.ClassRun
/-- The bytes of a row. -/
def Get.bytes (d k : Nat) : Get (List Int) := ⟨fun s K => match s.t.getD d und with
  | .p id _ => match s.h.getD id .dead with
    | .cells c _ => ∃ l : List Int, Holds (c = l.map (AV.i .u8) ∧ l.length = k) ∧ K l
    | _ => False
  | _ => False, fun s K h => by
    split at h
    · split at h
      · obtain ⟨l, _, h⟩ := h
        exact ⟨l, h⟩
      · exact h.elim
    · exact h.elim⟩
def head21 (n : Int) : Nat → Option Head := fun r => match r with
  | 2 => some (Head.one (Get.and (Get.row 2) (Get.int 5)) fun q => ⟨[.bad, .i .i64 n, .p 0 0, .bad, .p 1 0, .i .i64 q.2] ++ bads 21, [.cells q.1 true, .cells [.i .u8 0, .i .u8 0, .i .u8 0, .i .u8 0, .i .u8 0, .i .u8 0, .i .u8 0, .i .u8 0, .i .u8 0, .i .u8 0, .i .u8 0, .i .u8 0, .i .u8 0, .i .u8 0, .i .u8 0, .i .u8 0, .i .i64 0] true]⟩)
  | 1005 => some (Head.one (Get.bytes 2 16) fun l => ⟨[.bad, .i .i64 n, .p 0 0, .bad, .p 1 0] ++ bads 22, [.cells [.i .u8 (l.getD 0 0), .i .u8 (l.getD 1 0), .i .u8 (l.getD 2 0), .i .u8 (l.getD 3 0), .i .u8 (l.getD 4 0), .i .u8 (l.getD 5 0), .i .u8 (l.getD 6 0), .i .u8 (l.getD 7 0), .i .u8 (l.getD 8 0), .i .u8 (l.getD 9 0), .i .u8 (l.getD 10 0), .i .u8 (l.getD 11 0), .i .u8 (l.getD 12 0), .i .u8 (l.getD 13 0), .i .u8 (l.getD 14 0), .i .u8 (l.getD 15 0)] true, .cells [.i .u8 0, .i .u8 0, .i .u8 0, .i .u8 0, .i .u8 0, .i .u8 0, .i .u8 0, .i .u8 0, .i .u8 0, .i .u8 0, .i .u8 0, .i .u8 0, .i .u8 0, .i .u8 0, .i .u8 0, .i .u8 0, .i .i64 0] true]⟩)
  | _ => none
def head23 (n : Int) : Nat → Option Head := fun r => match r with
  | 2 => some (Head.one (Get.and (Get.row 2) (Get.int 5)) fun q => ⟨[.bad, .i .i64 n, .p 0 0, .bad, .p 1 0, .i .i64 q.2] ++ bads 21, [.cells q.1 true, .cells [.i .u8 0, .i .u8 0, .i .u8 0, .i .u8 0, .i .i64 0] true]⟩)
  | 1005 => some (Head.one (Get.bytes 2 4) fun l => ⟨[.bad, .i .i64 n, .p 0 0, .bad, .p 1 0] ++ bads 22, [.cells [.i .u8 (l.getD 0 0), .i .u8 (l.getD 1 0), .i .u8 (l.getD 2 0), .i .u8 (l.getD 3 0)] true, .cells [.i .u8 0, .i .u8 0, .i .u8 0, .i .u8 0, .i .i64 0] true]⟩)
  | _ => none
theorem vc21 (p0 p1 p2 p3 p4 p5 p6 p7 p8 p9 p10 p11 p12 p13 p14 p15 n : Int) (R : AV → Hp → Prop) : (wpFn P tnil noW (head21 n) 0 Go.Proofs.Tryd.f21 [.ag [.i .u8 p0, .i .u8 p1, .i .u8 p2, .i .u8 p3, .i .u8 p4, .i .u8 p5, .i .u8 p6, .i .u8 p7, .i .u8 p8, .i .u8 p9, .i .u8 p10, .i .u8 p11, .i .u8 p12, .i .u8 p13, .i .u8 p14, .i .u8 p15], .i .i64 n] [] R) = (∃ (J : List Int → Prop), (Wk (0 : Nat) { t := [.bad, AV.i IntKind.i64 n, AV.p (0 : Nat) (0 : Nat), .bad, AV.p (1 : Nat) (0 : Nat), AV.i IntKind.i64 n, .bad, .bad, .bad, .bad, .bad, .bad, .bad, .bad, .bad, .bad, .bad, .bad, .bad, .bad, .bad, .bad, .bad, .bad, .bad, .bad, .bad], h := [Blk.cells [AV.i IntKind.u8 p0, AV.i IntKind.u8 p1, AV.i IntKind.u8 p2, AV.i IntKind.u8 p3, AV.i IntKind.u8 p4, AV.i IntKind.u8 p5, AV.i IntKind.u8 p6, AV.i IntKind.u8 p7, AV.i IntKind.u8 p8, AV.i IntKind.u8 p9, AV.i IntKind.u8 p10, AV.i IntKind.u8 p11, AV.i IntKind.u8 p12, AV.i IntKind.u8 p13, AV.i IntKind.u8 p14, AV.i IntKind.u8 p15] true, Blk.cells [AV.i IntKind.u8 (0 : Int), AV.i IntKind.u8 (0 : Int), AV.i IntKind.u8 (0 : Int), AV.i IntKind.u8 (0 : Int), AV.i IntKind.u8 (0 : Int), AV.i IntKind.u8 (0 : Int), AV.i IntKind.u8 (0 : Int), AV.i IntKind.u8 (0 : Int), AV.i IntKind.u8 (0 : Int), AV.i IntKind.u8 (0 : Int), AV.i IntKind.u8 (0 : Int), AV.i IntKind.u8 (0 : Int), AV.i IntKind.u8 (0 : Int), AV.i IntKind.u8 (0 : Int), AV.i IntKind.u8 (0 : Int), AV.i IntKind.u8 (0 : Int), AV.i IntKind.i64 (0 : Int)] true] } { t := [.bad, AV.i IntKind.i64 n, AV.p (0 : Nat) (0 : Nat), .bad, AV.p (1 : Nat) (0 : Nat), AV.i IntKind.i64 n, .bad, .bad, .bad, .bad, .bad, .bad, .bad, .bad, .bad, .bad, .bad, .bad, .bad, .bad, .bad, .bad, .bad, .bad, .bad, .bad, .bad], h := [Blk.cells [AV.i IntKind.u8 p0, AV.i IntKind.u8 p1, AV.i IntKind.u8 p2, AV.i IntKind.u8 p3, AV.i IntKind.u8 p4, AV.i IntKind.u8 p5, AV.i IntKind.u8 p6, AV.i IntKind.u8 p7, AV.i IntKind.u8 p8, AV.i IntKind.u8 p9, AV.i IntKind.u8 p10, AV.i IntKind.u8 p11, AV.i IntKind.u8 p12, AV.i IntKind.u8 p13, AV.i IntKind.u8 p14, AV.i IntKind.u8 p15] true, Blk.cells [AV.i IntKind.u8 (0 : Int), AV.i IntKind.u8 (0 : Int), AV.i IntKind.u8 (0 : Int), AV.i IntKind.u8 (0 : Int), AV.i IntKind.u8 (0 : Int), AV.i IntKind.u8 (0 : Int), AV.i IntKind.u8 (0 : Int), AV.i IntKind.u8 (0 : Int), AV.i IntKind.u8 (0 : Int), AV.i IntKind.u8 (0 : Int), AV.i IntKind.u8 (0 : Int), AV.i IntKind.u8 (0 : Int), AV.i IntKind.u8 (0 : Int), AV.i IntKind.u8 (0 : Int), AV.i IntKind.u8 (0 : Int), AV.i IntKind.u8 (0 : Int), AV.i IntKind.i64 (0 : Int)] true] } ∧ ∃ (I : Nat → List AV × Int → Prop), ∃ (n_1 : Nat), I n_1 ([AV.i IntKind.u8 p0, AV.i IntKind.u8 p1, AV.i IntKind.u8 p2, AV.i IntKind.u8 p3, AV.i IntKind.u8 p4, AV.i IntKind.u8 p5, AV.i IntKind.u8 p6, AV.i IntKind.u8 p7, AV.i IntKind.u8 p8, AV.i IntKind.u8 p9, AV.i IntKind.u8 p10, AV.i IntKind.u8 p11, AV.i IntKind.u8 p12, AV.i IntKind.u8 p13, AV.i IntKind.u8 p14, AV.i IntKind.u8 p15], n) ∧ ∀ (a : List AV × Int) (n_2 : Nat), I n_2 a → br (decide (Prod.snd a < (128 : Int))) (Holds ((0 : Int) ≤ IntKind.wrap IntKind.i64 (Int.tdiv (Prod.snd a) (8 : Int)) ∧ IntKind.wrap IntKind.i64 (Int.tdiv (Prod.snd a) (8 : Int)) < (↑(16 : Nat) : Int)) ∧ ∃ (n_3 : Int), Holds (a.1[(0 : Nat) + Int.toNat (IntKind.wrap IntKind.i64 (Int.tdiv (Prod.snd a) (8 : Int))) * (1 : Nat)]? = some (AV.i IntKind.u8 n_3)) ∧ Holds ((0 : Int) ≤ IntKind.wrap IntKind.u64 (IntKind.wrap IntKind.i64 ((7 : Int) - Int.tmod (Prod.snd a) (8 : Int)))) ∧ Holds ((0 : Int) ≤ IntKind.wrap IntKind.i64 (Int.tdiv (Prod.snd a) (8 : Int)) ∧ IntKind.wrap IntKind.i64 (Int.tdiv (Prod.snd a) (8 : Int)) < (↑(16 : Nat) : Int)) ∧ Holds ((0 : Nat) + Int.toNat (IntKind.wrap IntKind.i64 (Int.tdiv (Prod.snd a) (8 : Int))) * (1 : Nat) + (1 : Nat) ≤ List.length a.1) ∧ Wk (0 : Nat) { t := [.bad, AV.i IntKind.i64 n, AV.p (0 : Nat) (0 : Nat), .bad, AV.p (1 : Nat) (0 : Nat), AV.i IntKind.i64 (IntKind.wrap IntKind.i64 (Prod.snd a + (1 : Int))), .bad, .bad, .bad, .bad, .bad, .bad, .bad, .bad, .bad, .bad, .bad, .bad, .bad, .bad, .bad, .bad, .bad, .bad, .bad, .bad, .bad], h := [Blk.cells (setAll a.1 ((0 : Nat) + Int.toNat (IntKind.wrap IntKind.i64 (Int.tdiv (Prod.snd a) (8 : Int))) * (1 : Nat)) [AV.i IntKind.u8 (bits BinOp.andNot IntKind.u8 n_3 (IntKind.wrap IntKind.u8 ((1 : Int) * (2 : Int) ^ min (Int.toNat (IntKind.wrap IntKind.u64 (IntKind.wrap IntKind.i64 ((7 : Int) - Int.tmod (Prod.snd a) (8 : Int))))) (IntKind.bits IntKind.u8))))]) true, Blk.cells [AV.i IntKind.u8 (0 : Int), AV.i IntKind.u8 (0 : Int), AV.i IntKind.u8 (0 : Int), AV.i IntKind.u8 (0 : Int), AV.i IntKind.u8 (0 : Int), AV.i IntKind.u8 (0 : Int), AV.i IntKind.u8 (0 : Int), AV.i IntKind.u8 (0 : Int), AV.i IntKind.u8 (0 : Int), AV.i IntKind.u8 (0 : Int), AV.i IntKind.u8 (0 : Int), AV.i IntKind.u8 (0 : Int), AV.i IntKind.u8 (0 : Int), AV.i IntKind.u8 (0 : Int), AV.i IntKind.u8 (0 : Int), AV.i IntKind.u8 (0 : Int), AV.i IntKind.i64 (0 : Int)] true] } { t := [.bad, AV.i IntKind.i64 n, AV.p (0 : Nat) (0 : Nat), .bad, AV.p (1 : Nat) (0 : Nat), AV.i IntKind.i64 (IntKind.wrap IntKind.i64 (Prod.snd a + (1 : Int))), .bad, .bad, .bad, .bad, .bad, .bad, .bad, .bad, .bad, .bad, .bad, .bad, .bad, .bad, .bad, .bad, .bad, .bad, .bad, .bad, .bad], h := [Blk.cells (setAll a.1 ((0 : Nat) + Int.toNat (IntKind.wrap IntKind.i64 (Int.tdiv (Prod.snd a) (8 : Int))) * (1 : Nat)) [AV.i IntKind.u8 (bits BinOp.andNot IntKind.u8 n_3 (IntKind.wrap IntKind.u8 ((1 : Int) * (2 : Int) ^ min (Int.toNat (IntKind.wrap IntKind.u64 (IntKind.wrap IntKind.i64 ((7 : Int) - Int.tmod (Prod.snd a) (8 : Int))))) (IntKind.bits IntKind.u8))))]) true, Blk.cells [AV.i IntKind.u8 (0 : Int), AV.i IntKind.u8 (0 : Int), AV.i IntKind.u8 (0 : Int), AV.i IntKind.u8 (0 : Int), AV.i IntKind.u8 (0 : Int), AV.i IntKind.u8 (0 : Int), AV.i IntKind.u8 (0 : Int), AV.i IntKind.u8 (0 : Int), AV.i IntKind.u8 (0 : Int), AV.i IntKind.u8 (0 : Int), AV.i IntKind.u8 (0 : Int), AV.i IntKind.u8 (0 : Int), AV.i IntKind.u8 (0 : Int), AV.i IntKind.u8 (0 : Int), AV.i IntKind.u8 (0 : Int), AV.i IntKind.u8 (0 : Int), AV.i IntKind.i64 (0 : Int)] true] } ∧ ∃ (m : Nat), Holds (m < n_2) ∧ I m (setAll a.1 ((0 : Nat) + Int.toNat (IntKind.wrap IntKind.i64 (Int.tdiv (Prod.snd a) (8 : Int))) * (1 : Nat)) [AV.i IntKind.u8 (bits BinOp.andNot IntKind.u8 n_3 (IntKind.wrap IntKind.u8 ((1 : Int) * (2 : Int) ^ min (Int.toNat (IntKind.wrap IntKind.u64 (IntKind.wrap IntKind.i64 ((7 : Int) - Int.tmod (Prod.snd a) (8 : Int))))) (IntKind.bits IntKind.u8))))], IntKind.wrap IntKind.i64 (Prod.snd a + (1 : Int)))) (∃ (l : List Int), Holds (Prod.fst a = List.map (AV.i IntKind.u8) l ∧ List.length l = (16 : Nat)) ∧ Wk (0 : Nat) { t := [.bad, AV.i IntKind.i64 n, AV.p (0 : Nat) (0 : Nat), .bad, AV.p (1 : Nat) (0 : Nat), .bad, .bad, .bad, .bad, .bad, .bad, .bad, .bad, .bad, .bad, .bad, .bad, .bad, .bad, .bad, .bad, .bad, .bad, .bad, .bad, .bad, .bad], h := [Blk.cells (Prod.fst a) true, Blk.cells [AV.i IntKind.u8 (0 : Int), AV.i IntKind.u8 (0 : Int), AV.i IntKind.u8 (0 : Int), AV.i IntKind.u8 (0 : Int), AV.i IntKind.u8 (0 : Int), AV.i IntKind.u8 (0 : Int), AV.i IntKind.u8 (0 : Int), AV.i IntKind.u8 (0 : Int), AV.i IntKind.u8 (0 : Int), AV.i IntKind.u8 (0 : Int), AV.i IntKind.u8 (0 : Int), AV.i IntKind.u8 (0 : Int), AV.i IntKind.u8 (0 : Int), AV.i IntKind.u8 (0 : Int), AV.i IntKind.u8 (0 : Int), AV.i IntKind.u8 (0 : Int), AV.i IntKind.i64 (0 : Int)] true] } { t := [.bad, AV.i IntKind.i64 n, AV.p (0 : Nat) (0 : Nat), .bad, AV.p (1 : Nat) (0 : Nat), .bad, .bad, .bad, .bad, .bad, .bad, .bad, .bad, .bad, .bad, .bad, .bad, .bad, .bad, .bad, .bad, .bad, .bad, .bad, .bad, .bad, .bad], h := [Blk.cells [AV.i IntKind.u8 (List.getD l (0 : Nat) (0 : Int)), AV.i IntKind.u8 (List.getD l (1 : Nat) (0 : Int)), AV.i IntKind.u8 (List.getD l (2 : Nat) (0 : Int)), AV.i IntKind.u8 (List.getD l (3 : Nat) (0 : Int)), AV.i IntKind.u8 (List.getD l (4 : Nat) (0 : Int)), AV.i IntKind.u8 (List.getD l (5 : Nat) (0 : Int)), AV.i IntKind.u8 (List.getD l (6 : Nat) (0 : Int)), AV.i IntKind.u8 (List.getD l (7 : Nat) (0 : Int)), AV.i IntKind.u8 (List.getD l (8 : Nat) (0 : Int)), AV.i IntKind.u8 (List.getD l (9 : Nat) (0 : Int)), AV.i IntKind.u8 (List.getD l (10 : Nat) (0 : Int)), AV.i IntKind.u8 (List.getD l (11 : Nat) (0 : Int)), AV.i IntKind.u8 (List.getD l (12 : Nat) (0 : Int)), AV.i IntKind.u8 (List.getD l (13 : Nat) (0 : Int)), AV.i IntKind.u8 (List.getD l (14 : Nat) (0 : Int)), AV.i IntKind.u8 (List.getD l (15 : Nat) (0 : Int))] true, Blk.cells [AV.i IntKind.u8 (0 : Int), AV.i IntKind.u8 (0 : Int), AV.i IntKind.u8 (0 : Int), AV.i IntKind.u8 (0 : Int), AV.i IntKind.u8 (0 : Int), AV.i IntKind.u8 (0 : Int), AV.i IntKind.u8 (0 : Int), AV.i IntKind.u8 (0 : Int), AV.i IntKind.u8 (0 : Int), AV.i IntKind.u8 (0 : Int), AV.i IntKind.u8 (0 : Int), AV.i IntKind.u8 (0 : Int), AV.i IntKind.u8 (0 : Int), AV.i IntKind.u8 (0 : Int), AV.i IntKind.u8 (0 : Int), AV.i IntKind.u8 (0 : Int), AV.i IntKind.i64 (0 : Int)] true] } ∧ J l)) ∧ ∀ (a : List Int), J a → Holds ((17 : Nat) ≤ List.length [AV.i IntKind.u8 (0 : Int), AV.i IntKind.u8 (0 : Int), AV.i IntKind.u8 (0 : Int), AV.i IntKind.u8 (0 : Int), AV.i IntKind.u8 (0 : Int), AV.i IntKind.u8 (0 : Int), AV.i IntKind.u8 (0 : Int), AV.i IntKind.u8 (0 : Int), AV.i IntKind.u8 (0 : Int), AV.i IntKind.u8 (0 : Int), AV.i IntKind.u8 (0 : Int), AV.i IntKind.u8 (0 : Int), AV.i IntKind.u8 (0 : Int), AV.i IntKind.u8 (0 : Int), AV.i IntKind.u8 (0 : Int), AV.i IntKind.u8 (0 : Int), AV.i IntKind.i64 (0 : Int)]) ∧ R (AV.ag [AV.i IntKind.u8 (List.getD a (0 : Nat) (0 : Int)), AV.i IntKind.u8 (List.getD a (1 : Nat) (0 : Int)), AV.i IntKind.u8 (List.getD a (2 : Nat) (0 : Int)), AV.i IntKind.u8 (List.getD a (3 : Nat) (0 : Int)), AV.i IntKind.u8 (List.getD a (4 : Nat) (0 : Int)), AV.i IntKind.u8 (List.getD a (5 : Nat) (0 : Int)), AV.i IntKind.u8 (List.getD a (6 : Nat) (0 : Int)), AV.i IntKind.u8 (List.getD a (7 : Nat) (0 : Int)), AV.i IntKind.u8 (List.getD a (8 : Nat) (0 : Int)), AV.i IntKind.u8 (List.getD a (9 : Nat) (0 : Int)), AV.i IntKind.u8 (List.getD a (10 : Nat) (0 : Int)), AV.i IntKind.u8 (List.getD a (11 : Nat) (0 : Int)), AV.i IntKind.u8 (List.getD a (12 : Nat) (0 : Int)), AV.i IntKind.u8 (List.getD a (13 : Nat) (0 : Int)), AV.i IntKind.u8 (List.getD a (14 : Nat) (0 : Int)), AV.i IntKind.u8 (List.getD a (15 : Nat) (0 : Int)), AV.i IntKind.i64 n]) [Blk.cells [AV.i IntKind.u8 (List.getD a (0 : Nat) (0 : Int)), AV.i IntKind.u8 (List.getD a (1 : Nat) (0 : Int)), AV.i IntKind.u8 (List.getD a (2 : Nat) (0 : Int)), AV.i IntKind.u8 (List.getD a (3 : Nat) (0 : Int)), AV.i IntKind.u8 (List.getD a (4 : Nat) (0 : Int)), AV.i IntKind.u8 (List.getD a (5 : Nat) (0 : Int)), AV.i IntKind.u8 (List.getD a (6 : Nat) (0 : Int)), AV.i IntKind.u8 (List.getD a (7 : Nat) (0 : Int)), AV.i IntKind.u8 (List.getD a (8 : Nat) (0 : Int)), AV.i IntKind.u8 (List.getD a (9 : Nat) (0 : Int)), AV.i IntKind.u8 (List.getD a (10 : Nat) (0 : Int)), AV.i IntKind.u8 (List.getD a (11 : Nat) (0 : Int)), AV.i IntKind.u8 (List.getD a (12 : Nat) (0 : Int)), AV.i IntKind.u8 (List.getD a (13 : Nat) (0 : Int)), AV.i IntKind.u8 (List.getD a (14 : Nat) (0 : Int)), AV.i IntKind.u8 (List.getD a (15 : Nat) (0 : Int))] true, Blk.cells [AV.i IntKind.u8 (List.getD a (0 : Nat) (0 : Int)), AV.i IntKind.u8 (List.getD a (1 : Nat) (0 : Int)), AV.i IntKind.u8 (List.getD a (2 : Nat) (0 : Int)), AV.i IntKind.u8 (List.getD a (3 : Nat) (0 : Int)), AV.i IntKind.u8 (List.getD a (4 : Nat) (0 : Int)), AV.i IntKind.u8 (List.getD a (5 : Nat) (0 : Int)), AV.i IntKind.u8 (List.getD a (6 : Nat) (0 : Int)), AV.i IntKind.u8 (List.getD a (7 : Nat) (0 : Int)), AV.i IntKind.u8 (List.getD a (8 : Nat) (0 : Int)), AV.i IntKind.u8 (List.getD a (9 : Nat) (0 : Int)), AV.i IntKind.u8 (List.getD a (10 : Nat) (0 : Int)), AV.i IntKind.u8 (List.getD a (11 : Nat) (0 : Int)), AV.i IntKind.u8 (List.getD a (12 : Nat) (0 : Int)), AV.i IntKind.u8 (List.getD a (13 : Nat) (0 : Int)), AV.i IntKind.u8 (List.getD a (14 : Nat) (0 : Int)), AV.i IntKind.u8 (List.getD a (15 : Nat) (0 : Int)), AV.i IntKind.i64 n] true]) := by kernel_rfl
theorem vc23 (p0 p1 p2 p3 n : Int) (R : AV → Hp → Prop) : (wpFn P tnil noW (head23 n) 0 Go.Proofs.Tryd.f23 [.ag [.i .u8 p0, .i .u8 p1, .i .u8 p2, .i .u8 p3], .i .i64 n] [] R) = (∃ (J : List Int → Prop), (Wk (0 : Nat) { t := [.bad, AV.i IntKind.i64 n, AV.p (0 : Nat) (0 : Nat), .bad, AV.p (1 : Nat) (0 : Nat), AV.i IntKind.i64 n, .bad, .bad, .bad, .bad, .bad, .bad, .bad, .bad, .bad, .bad, .bad, .bad, .bad, .bad, .bad, .bad, .bad, .bad, .bad, .bad, .bad], h := [Blk.cells [AV.i IntKind.u8 p0, AV.i IntKind.u8 p1, AV.i IntKind.u8 p2, AV.i IntKind.u8 p3] true, Blk.cells [AV.i IntKind.u8 (0 : Int), AV.i IntKind.u8 (0 : Int), AV.i IntKind.u8 (0 : Int), AV.i IntKind.u8 (0 : Int), AV.i IntKind.i64 (0 : Int)] true] } { t := [.bad, AV.i IntKind.i64 n, AV.p (0 : Nat) (0 : Nat), .bad, AV.p (1 : Nat) (0 : Nat), AV.i IntKind.i64 n, .bad, .bad, .bad, .bad, .bad, .bad, .bad, .bad, .bad, .bad, .bad, .bad, .bad, .bad, .bad, .bad, .bad, .bad, .bad, .bad, .bad], h := [Blk.cells [AV.i IntKind.u8 p0, AV.i IntKind.u8 p1, AV.i IntKind.u8 p2, AV.i IntKind.u8 p3] true, Blk.cells [AV.i IntKind.u8 (0 : Int), AV.i IntKind.u8 (0 : Int), AV.i IntKind.u8 (0 : Int), AV.i IntKind.u8 (0 : Int), AV.i IntKind.i64 (0 : Int)] true] } ∧ ∃ (I : Nat → List AV × Int → Prop), ∃ (n_1 : Nat), I n_1 ([AV.i IntKind.u8 p0, AV.i IntKind.u8 p1, AV.i IntKind.u8 p2, AV.i IntKind.u8 p3], n) ∧ ∀ (a : List AV × Int) (n_2 : Nat), I n_2 a → br (decide (Prod.snd a < (32 : Int))) (Holds ((0 : Int) ≤ IntKind.wrap IntKind.i64 (Int.tdiv (Prod.snd a) (8 : Int)) ∧ IntKind.wrap IntKind.i64 (Int.tdiv (Prod.snd a) (8 : Int)) < (↑(4 : Nat) : Int)) ∧ ∃ (n_3 : Int), Holds (a.1[(0 : Nat) + Int.toNat (IntKind.wrap IntKind.i64 (Int.tdiv (Prod.snd a) (8 : Int))) * (1 : Nat)]? = some (AV.i IntKind.u8 n_3)) ∧ Holds ((0 : Int) ≤ IntKind.wrap IntKind.u64 (IntKind.wrap IntKind.i64 ((7 : Int) - Int.tmod (Prod.snd a) (8 : Int)))) ∧ Holds ((0 : Int) ≤ IntKind.wrap IntKind.i64 (Int.tdiv (Prod.snd a) (8 : Int)) ∧ IntKind.wrap IntKind.i64 (Int.tdiv (Prod.snd a) (8 : Int)) < (↑(4 : Nat) : Int)) ∧ Holds ((0 : Nat) + Int.toNat (IntKind.wrap IntKind.i64 (Int.tdiv (Prod.snd a) (8 : Int))) * (1 : Nat) + (1 : Nat) ≤ List.length a.1) ∧ Wk (0 : Nat) { t := [.bad, AV.i IntKind.i64 n, AV.p (0 : Nat) (0 : Nat), .bad, AV.p (1 : Nat) (0 : Nat), AV.i IntKind.i64 (IntKind.wrap IntKind.i64 (Prod.snd a + (1 : Int))), .bad, .bad, .bad, .bad, .bad, .bad, .bad, .bad, .bad, .bad, .bad, .bad, .bad, .bad, .bad, .bad, .bad, .bad, .bad, .bad, .bad], h := [Blk.cells (setAll a.1 ((0 : Nat) + Int.toNat (IntKind.wrap IntKind.i64 (Int.tdiv (Prod.snd a) (8 : Int))) * (1 : Nat)) [AV.i IntKind.u8 (bits BinOp.andNot IntKind.u8 n_3 (IntKind.wrap IntKind.u8 ((1 : Int) * (2 : Int) ^ min (Int.toNat (IntKind.wrap IntKind.u64 (IntKind.wrap IntKind.i64 ((7 : Int) - Int.tmod (Prod.snd a) (8 : Int))))) (IntKind.bits IntKind.u8))))]) true, Blk.cells [AV.i IntKind.u8 (0 : Int), AV.i IntKind.u8 (0 : Int), AV.i IntKind.u8 (0 : Int), AV.i IntKind.u8 (0 : Int), AV.i IntKind.i64 (0 : Int)] true] } { t := [.bad, AV.i IntKind.i64 n, AV.p (0 : Nat) (0 : Nat), .bad, AV.p (1 : Nat) (0 : Nat), AV.i IntKind.i64 (IntKind.wrap IntKind.i64 (Prod.snd a + (1 : Int))), .bad, .bad, .bad, .bad, .bad, .bad, .bad, .bad, .bad, .bad, .bad, .bad, .bad, .bad, .bad, .bad, .bad, .bad, .bad, .bad, .bad], h := [Blk.cells (setAll a.1 ((0 : Nat) + Int.toNat (IntKind.wrap IntKind.i64 (Int.tdiv (Prod.snd a) (8 : Int))) * (1 : Nat)) [AV.i IntKind.u8 (bits BinOp.andNot IntKind.u8 n_3 (IntKind.wrap IntKind.u8 ((1 : Int) * (2 : Int) ^ min (Int.toNat (IntKind.wrap IntKind.u64 (IntKind.wrap IntKind.i64 ((7 : Int) - Int.tmod (Prod.snd a) (8 : Int))))) (IntKind.bits IntKind.u8))))]) true, Blk.cells [AV.i IntKind.u8 (0 : Int), AV.i IntKind.u8 (0 : Int), AV.i IntKind.u8 (0 : Int), AV.i IntKind.u8 (0 : Int), AV.i IntKind.i64 (0 : Int)] true] } ∧ ∃ (m : Nat), Holds (m < n_2) ∧ I m (setAll a.1 ((0 : Nat) + Int.toNat (IntKind.wrap IntKind.i64 (Int.tdiv (Prod.snd a) (8 : Int))) * (1 : Nat)) [AV.i IntKind.u8 (bits BinOp.andNot IntKind.u8 n_3 (IntKind.wrap IntKind.u8 ((1 : Int) * (2 : Int) ^ min (Int.toNat (IntKind.wrap IntKind.u64 (IntKind.wrap IntKind.i64 ((7 : Int) - Int.tmod (Prod.snd a) (8 : Int))))) (IntKind.bits IntKind.u8))))], IntKind.wrap IntKind.i64 (Prod.snd a + (1 : Int)))) (∃ (l : List Int), Holds (Prod.fst a = List.map (AV.i IntKind.u8) l ∧ List.length l = (4 : Nat)) ∧ Wk (0 : Nat) { t := [.bad, AV.i IntKind.i64 n, AV.p (0 : Nat) (0 : Nat), .bad, AV.p (1 : Nat) (0 : Nat), .bad, .bad, .bad, .bad, .bad, .bad, .bad, .bad, .bad, .bad, .bad, .bad, .bad, .bad, .bad, .bad, .bad, .bad, .bad, .bad, .bad, .bad], h := [Blk.cells (Prod.fst a) true, Blk.cells [AV.i IntKind.u8 (0 : Int), AV.i IntKind.u8 (0 : Int), AV.i IntKind.u8 (0 : Int), AV.i IntKind.u8 (0 : Int), AV.i IntKind.i64 (0 : Int)] true] } { t := [.bad, AV.i IntKind.i64 n, AV.p (0 : Nat) (0 : Nat), .bad, AV.p (1 : Nat) (0 : Nat), .bad, .bad, .bad, .bad, .bad, .bad, .bad, .bad, .bad, .bad, .bad, .bad, .bad, .bad, .bad, .bad, .bad, .bad, .bad, .bad, .bad, .bad], h := [Blk.cells [AV.i IntKind.u8 (List.getD l (0 : Nat) (0 : Int)), AV.i IntKind.u8 (List.getD l (1 : Nat) (0 : Int)), AV.i IntKind.u8 (List.getD l (2 : Nat) (0 : Int)), AV.i IntKind.u8 (List.getD l (3 : Nat) (0 : Int))] true, Blk.cells [AV.i IntKind.u8 (0 : Int), AV.i IntKind.u8 (0 : Int), AV.i IntKind.u8 (0 : Int), AV.i IntKind.u8 (0 : Int), AV.i IntKind.i64 (0 : Int)] true] } ∧ J l)) ∧ ∀ (a : List Int), J a → Holds ((5 : Nat) ≤ List.length [AV.i IntKind.u8 (0 : Int), AV.i IntKind.u8 (0 : Int), AV.i IntKind.u8 (0 : Int), AV.i IntKind.u8 (0 : Int), AV.i IntKind.i64 (0 : Int)]) ∧ R (AV.ag [AV.i IntKind.u8 (List.getD a (0 : Nat) (0 : Int)), AV.i IntKind.u8 (List.getD a (1 : Nat) (0 : Int)), AV.i IntKind.u8 (List.getD a (2 : Nat) (0 : Int)), AV.i IntKind.u8 (List.getD a (3 : Nat) (0 : Int)), AV.i IntKind.i64 n]) [Blk.cells [AV.i IntKind.u8 (List.getD a (0 : Nat) (0 : Int)), AV.i IntKind.u8 (List.getD a (1 : Nat) (0 : Int)), AV.i IntKind.u8 (List.getD a (2 : Nat) (0 : Int)), AV.i IntKind.u8 (List.getD a (3 : Nat) (0 : Int))] true, Blk.cells [AV.i IntKind.u8 (List.getD a (0 : Nat) (0 : Int)), AV.i IntKind.u8 (List.getD a (1 : Nat) (0 : Int)), AV.i IntKind.u8 (List.getD a (2 : Nat) (0 : Int)), AV.i IntKind.u8 (List.getD a (3 : Nat) (0 : Int)), AV.i IntKind.i64 n] true]) := by kernel_rfl
/-- The first lo bits, and those behind the first hi. -/
def mid (x : Int) (lo hi : Nat) : Int := x / 2 ^ (8 - lo) * 2 ^ (8 - lo) + x % 2 ^ (8 - hi)
def stepOk (x lo h : Nat) : Bool := decide (Go.bits .andNot .u8 (mid x lo h) (IntKind.wrap .u8 (1 * 2 ^ (7 - h))) = mid x lo (h + 1))
set_option maxRecDepth 10000000 in
theorem stepAll : ((List.range 256).all fun x => (List.range 8).all fun h => (List.range (h + 1)).all fun lo => stepOk x lo h) = true := by kernel_rfl
theorem step_bit {x : Int} (h0 : 0 ≤ x) (h1 : x ≤ 255) {lo h : Nat} (hh : h < 8) (hl : lo ≤ h) : Go.bits .andNot .u8 (mid x lo h) (IntKind.wrap .u8 (1 * 2 ^ (7 - h))) = mid x lo (h + 1) := by
  obtain ⟨X, rfl⟩ : ∃ X : Nat, x = X := ⟨x.toNat, by omega⟩
  have a := List.all_eq_true.1 stepAll X (List.mem_range.2 (by omega))
  have b := List.all_eq_true.1 a h (List.mem_range.2 hh)
  have c := List.all_eq_true.1 b lo (List.mem_range.2 (by omega))
  exact of_decide_eq_true c
theorem mid_same (x : Int) (k : Nat) : mid x k k = x := by
  unfold mid
  have := Int.mul_ediv_add_emod x (2 ^ (8 - k))
  rw [Int.mul_comm]; exact this
theorem mid_end (x : Int) (k : Nat) : mid x k 8 = x / 2 ^ (8 - k) * 2 ^ (8 - k) := by
  unfold mid; simp
def midL (l : List Int) (n i : Int) : List Int := (List.range l.length).map fun j => mid (l.getD j 0) (kk n j) (kk i j)
def cutL (l : List Int) (n : Int) : List Int := (List.range l.length).map fun j => l.getD j 0 / 2 ^ (8 - kk n j) * 2 ^ (8 - kk n j)
theorem midL_len (l : List Int) (n i : Int) : (midL l n i).length = l.length := by simp [midL]
theorem cutL_len (l : List Int) (n : Int) : (cutL l n).length = l.length := by simp [cutL]
theorem midL_get {l : List Int} {n i : Int} {j : Nat} (h : j < l.length) : (midL l n i)[j]? = some (mid (l.getD j 0) (kk n j) (kk i j)) := by simp [midL, h]
theorem midL_start (l : List Int) (n : Int) : midL l n n = l := by
  apply List.ext_getElem?
  intro j
  by_cases h : j < l.length
  · rw [midL_get h, mid_same, List.getD_eq_getElem?_getD, List.getElem?_eq_getElem h]; rfl
  · rw [List.getElem?_eq_none (by rw [midL_len]; omega), List.getElem?_eq_none (by omega)]
theorem midL_stop (l : List Int) (n i : Int) (h : 8 * l.length ≤ i) : midL l n i = cutL l n := by
  unfold midL cutL
  apply List.map_congr_left
  intro j hj
  have hj := List.mem_range.1 hj
  have : kk i j = 8 := by unfold kk; omega
  rw [this, mid_end]
/-- A step: one bit is struck. -/
theorem midL_step {l : List Int} {n : Int} {i : Nat} (ho : okb l) (hn : 0 ≤ n) (hni : n ≤ i) (hi : i < 8 * l.length) :
    setAll ((midL l n i).map (AV.i .u8)) (0 + (i / 8) * 1) [.i .u8 (Go.bits .andNot .u8 (mid (l.getD (i / 8) 0) (kk n (i / 8)) (i % 8)) (IntKind.wrap .u8 (1 * 2 ^ (7 - i % 8))))] = (midL l n ((i : Int) + 1)).map (AV.i .u8) := by
  have hj : i / 8 < l.length := by omega
  have hb := ho (i / 8) hj
  rw [step_bit hb.1 hb.2 (by omega) (by unfold kk; omega)]
  show ((midL l n i).map (AV.i .u8)).set (0 + (i / 8) * 1) _ = _
  rw [Nat.zero_add, Nat.mul_one]
  apply List.ext_getElem?
  intro j
  by_cases e : i / 8 = j
  · subst e
    rw [List.getElem?_set_self (by rw [List.length_map, midL_len]; exact hj), List.getElem?_map, midL_get hj]
    have : kk ((i : Int) + 1) (i / 8) = i % 8 + 1 := by unfold kk; omega
    rw [this]; rfl
  · rw [List.getElem?_set_ne e, List.getElem?_map, List.getElem?_map]
    by_cases h : j < l.length
    · rw [midL_get h, midL_get h]
      have : kk ((i : Int) + 1) j = kk i j := by unfold kk; omega
      rw [this]
    · rw [List.getElem?_eq_none (by rw [midL_len]; omega), List.getElem?_eq_none (by rw [midL_len]; omega)]
theorem shift_eq (i : Nat) : min (Int.toNat (IntKind.wrap .u64 (IntKind.wrap .i64 (7 - Int.tmod (i : Int) 8)))) (IntKind.bits .u8) = 7 - i % 8 := by
  have e8 : IntKind.bits .u8 = 8 := rfl
  rw [Int.tmod_eq_emod_of_nonneg (Int.natCast_nonneg _), i64w (by omega) (by omega), e8]
  have : IntKind.wrap .u64 (7 - (i : Int) % 8) = 7 - (i : Int) % 8 := by
    rw [IntKind.wrap_u64]; omega
  rw [this]; omega
theorem idx_eq (i : Nat) : IntKind.wrap .i64 (Int.tdiv (i : Int) 8) = ((i / 8 : Nat) : Int) ∨ 9223372036854775807 < (i : Int) := by
  rcases Nat.lt_or_ge i 9223372036854775808 with h | h
  · left
    rw [Int.tdiv_eq_ediv_of_nonneg (Int.natCast_nonneg _), i64w (by omega) (by omega)]; omega
  · right; omega
set_option maxRecDepth 100000 in
theorem run21 {p0 p1 p2 p3 p4 p5 p6 p7 p8 p9 p10 p11 p12 p13 p14 p15 n : Int} (hk : okb [p0, p1, p2, p3, p4, p5, p6, p7, p8, p9, p10, p11, p12, p13, p14, p15]) (h0 : 0 ≤ n) (h1 : n ≤ 128) : Holds (wpFn P tnil noW (head21 n) 0 Go.Proofs.Tryd.f21 [.ag [.i .u8 p0, .i .u8 p1, .i .u8 p2, .i .u8 p3, .i .u8 p4, .i .u8 p5, .i .u8 p6, .i .u8 p7, .i .u8 p8, .i .u8 p9, .i .u8 p10, .i .u8 p11, .i .u8 p12, .i .u8 p13, .i .u8 p14, .i .u8 p15], .i .i64 n] [] fun v _ => v = .ag [.i .u8 ((cutL [p0, p1, p2, p3, p4, p5, p6, p7, p8, p9, p10, p11, p12, p13, p14, p15] n).getD 0 0), .i .u8 ((cutL [p0, p1, p2, p3, p4, p5, p6, p7, p8, p9, p10, p11, p12, p13, p14, p15] n).getD 1 0), .i .u8 ((cutL [p0, p1, p2, p3, p4, p5, p6, p7, p8, p9, p10, p11, p12, p13, p14, p15] n).getD 2 0), .i .u8 ((cutL [p0, p1, p2, p3, p4, p5, p6, p7, p8, p9, p10, p11, p12, p13, p14, p15] n).getD 3 0), .i .u8 ((cutL [p0, p1, p2, p3, p4, p5, p6, p7, p8, p9, p10, p11, p12, p13, p14, p15] n).getD 4 0), .i .u8 ((cutL [p0, p1, p2, p3, p4, p5, p6, p7, p8, p9, p10, p11, p12, p13, p14, p15] n).getD 5 0), .i .u8 ((cutL [p0, p1, p2, p3, p4, p5, p6, p7, p8, p9, p10, p11, p12, p13, p14, p15] n).getD 6 0), .i .u8 ((cutL [p0, p1, p2, p3, p4, p5, p6, p7, p8, p9, p10, p11, p12, p13, p14, p15] n).getD 7 0), .i .u8 ((cutL [p0, p1, p2, p3, p4, p5, p6, p7, p8, p9, p10, p11, p12, p13, p14, p15] n).getD 8 0), .i .u8 ((cutL [p0, p1, p2, p3, p4, p5, p6, p7, p8, p9, p10, p11, p12, p13, p14, p15] n).getD 9 0), .i .u8 ((cutL [p0, p1, p2, p3, p4, p5, p6, p7, p8, p9, p10, p11, p12, p13, p14, p15] n).getD 10 0), .i .u8 ((cutL [p0, p1, p2, p3, p4, p5, p6, p7, p8, p9, p10, p11, p12, p13, p14, p15] n).getD 11 0), .i .u8 ((cutL [p0, p1, p2, p3, p4, p5, p6, p7, p8, p9, p10, p11, p12, p13, p14, p15] n).getD 12 0), .i .u8 ((cutL [p0, p1, p2, p3, p4, p5, p6, p7, p8, p9, p10, p11, p12, p13, p14, p15] n).getD 13 0), .i .u8 ((cutL [p0, p1, p2, p3, p4, p5, p6, p7, p8, p9, p10, p11, p12, p13, p14, p15] n).getD 14 0), .i .u8 ((cutL [p0, p1, p2, p3, p4, p5, p6, p7, p8, p9, p10, p11, p12, p13, p14, p15] n).getD 15 0), .i .i64 n]) := by
  refine ⟨?_⟩
  rw [vc21]
  refine ⟨fun l => l = cutL [p0, p1, p2, p3, p4, p5, p6, p7, p8, p9, p10, p11, p12, p13, p14, p15] n, ⟨Wk.refl _ _, fun m q => ∃ i : Nat, (i : Int) + m = 128 ∧ n ≤ i ∧ q.2 = (i : Int) ∧ q.1 = (midL [p0, p1, p2, p3, p4, p5, p6, p7, p8, p9, p10, p11, p12, p13, p14, p15] n i).map (AV.i .u8), (128 - n).toNat, ⟨n.toNat, by omega, by omega, by simp only; omega, ?_⟩, ?_⟩, ?_⟩
  · rw [show ((n.toNat : Nat) : Int) = n by omega, midL_start]; rfl
  · rintro ⟨c, i'⟩ m ⟨i, hm, hni, e1, e2⟩
    simp only at e1 e2
    subst e1 e2
    refine br_intro (fun hi => ?_) (fun hi => ?_)
    · simp only [decide_eq_true_eq] at hi
      have ix : IntKind.wrap .i64 (Int.tdiv (i : Int) 8) = ((i / 8 : Nat) : Int) := by
        rcases idx_eq i with h | h
        · exact h
        · omega
      have hj : i / 8 < [p0, p1, p2, p3, p4, p5, p6, p7, p8, p9, p10, p11, p12, p13, p14, p15].length := by show i / 8 < 16; omega
      simp only [ix, shift_eq, Int.toNat_natCast]
      have hki : kk i (i / 8) = i % 8 := by unfold kk; omega
      have hget := midL_get (n := n) (i := i) hj
      rw [hki] at hget
      refine ⟨⟨Int.natCast_nonneg _, by omega⟩, _, ⟨by rw [Nat.zero_add, Nat.mul_one, List.getElem?_map, hget]; rfl⟩, ⟨?_⟩, ⟨Int.natCast_nonneg _, by omega⟩, ⟨?_⟩, Wk.refl _ _, m - 1, ⟨by omega⟩, i + 1, by omega, by omega, i64w (x := (i : Int) + 1) (by omega) (by omega), ?_⟩
      · rw [Int.tmod_eq_emod_of_nonneg (Int.natCast_nonneg _), i64w (by omega) (by omega), IntKind.wrap_u64]; omega
      · rw [List.length_map, midL_len]
        show 0 + i / 8 * 1 + 1 ≤ 16
        omega
      · exact midL_step hk h0 hni (by show i < 8 * 16; omega)
    · simp only [decide_eq_false_iff_not] at hi
      have ei := midL_stop [p0, p1, p2, p3, p4, p5, p6, p7, p8, p9, p10, p11, p12, p13, p14, p15] n i (by show (8 * 16 : Int) ≤ i; omega)
      have hlen : (cutL [p0, p1, p2, p3, p4, p5, p6, p7, p8, p9, p10, p11, p12, p13, p14, p15] n).length = 16 := cutL_len _ _
      rw [ei]
      refine ⟨cutL [p0, p1, p2, p3, p4, p5, p6, p7, p8, p9, p10, p11, p12, p13, p14, p15] n, ⟨rfl, hlen⟩, ?_, rfl⟩
      generalize cutL [p0, p1, p2, p3, p4, p5, p6, p7, p8, p9, p10, p11, p12, p13, p14, p15] n = z at hlen
      match z, hlen with
      | [p0, p1, p2, p3, p4, p5, p6, p7, p8, p9, p10, p11, p12, p13, p14, p15], _ => exact Wk.refl _ _
  · rintro l rfl
    exact ⟨⟨by decide⟩, rfl⟩
set_option maxRecDepth 100000 in
theorem run23 {p0 p1 p2 p3 n : Int} (hk : okb [p0, p1, p2, p3]) (h0 : 0 ≤ n) (h1 : n ≤ 32) : Holds (wpFn P tnil noW (head23 n) 0 Go.Proofs.Tryd.f23 [.ag [.i .u8 p0, .i .u8 p1, .i .u8 p2, .i .u8 p3], .i .i64 n] [] fun v _ => v = .ag [.i .u8 ((cutL [p0, p1, p2, p3] n).getD 0 0), .i .u8 ((cutL [p0, p1, p2, p3] n).getD 1 0), .i .u8 ((cutL [p0, p1, p2, p3] n).getD 2 0), .i .u8 ((cutL [p0, p1, p2, p3] n).getD 3 0), .i .i64 n]) := by
  refine ⟨?_⟩
  rw [vc23]
  refine ⟨fun l => l = cutL [p0, p1, p2, p3] n, ⟨Wk.refl _ _, fun m q => ∃ i : Nat, (i : Int) + m = 32 ∧ n ≤ i ∧ q.2 = (i : Int) ∧ q.1 = (midL [p0, p1, p2, p3] n i).map (AV.i .u8), (32 - n).toNat, ⟨n.toNat, by omega, by omega, by simp only; omega, ?_⟩, ?_⟩, ?_⟩
  · rw [show ((n.toNat : Nat) : Int) = n by omega, midL_start]; rfl
  · rintro ⟨c, i'⟩ m ⟨i, hm, hni, e1, e2⟩
    simp only at e1 e2
    subst e1 e2
    refine br_intro (fun hi => ?_) (fun hi => ?_)
    · simp only [decide_eq_true_eq] at hi
      have ix : IntKind.wrap .i64 (Int.tdiv (i : Int) 8) = ((i / 8 : Nat) : Int) := by
        rcases idx_eq i with h | h
        · exact h
        · omega
      have hj : i / 8 < [p0, p1, p2, p3].length := by show i / 8 < 4; omega
      simp only [ix, shift_eq, Int.toNat_natCast]
      have hki : kk i (i / 8) = i % 8 := by unfold kk; omega
      have hget := midL_get (n := n) (i := i) hj
      rw [hki] at hget
      refine ⟨⟨Int.natCast_nonneg _, by omega⟩, _, ⟨by rw [Nat.zero_add, Nat.mul_one, List.getElem?_map, hget]; rfl⟩, ⟨?_⟩, ⟨Int.natCast_nonneg _, by omega⟩, ⟨?_⟩, Wk.refl _ _, m - 1, ⟨by omega⟩, i + 1, by omega, by omega, i64w (x := (i : Int) + 1) (by omega) (by omega), ?_⟩
      · rw [Int.tmod_eq_emod_of_nonneg (Int.natCast_nonneg _), i64w (by omega) (by omega), IntKind.wrap_u64]; omega
      · rw [List.length_map, midL_len]
        show 0 + i / 8 * 1 + 1 ≤ 4
        omega
      · exact midL_step hk h0 hni (by show i < 8 * 4; omega)
    · simp only [decide_eq_false_iff_not] at hi
      have ei := midL_stop [p0, p1, p2, p3] n i (by show (8 * 4 : Int) ≤ i; omega)
      have hlen : (cutL [p0, p1, p2, p3] n).length = 4 := cutL_len _ _
      rw [ei]
      refine ⟨cutL [p0, p1, p2, p3] n, ⟨rfl, hlen⟩, ?_, rfl⟩
      generalize cutL [p0, p1, p2, p3] n = z at hlen
      match z, hlen with
      | [p0, p1, p2, p3], _ => exact Wk.refl _ _
  · rintro l rfl
    exact ⟨⟨by decide⟩, rfl⟩
end Go.Proofs.YtohaalilplngnaaDoor.ClassRun
/- The law of shorter prefixes. -/
set_option linter.unusedVariables false
set_option linter.unusedSimpArgs false
open Go Go.Proofs.YtohaalilplngnaaDoor.Eng Go.RowKit
namespace Go.Proofs.YtohaalilplngnaaDoor.ClassRun
/-- An address' first bits, as a prefix; does a prefix hold an address? The answers by name. -/
def tcut16 (C : List Int → Int → List Int) (args : List AV) (h : Hp) (K : AV → Hp → Prop) : Prop := match args with
  | [.ag [.i .u8 p0, .i .u8 p1, .i .u8 p2, .i .u8 p3, .i .u8 p4, .i .u8 p5, .i .u8 p6, .i .u8 p7, .i .u8 p8, .i .u8 p9, .i .u8 p10, .i .u8 p11, .i .u8 p12, .i .u8 p13, .i .u8 p14, .i .u8 p15], .i .i64 n] => Holds (okb [p0, p1, p2, p3, p4, p5, p6, p7, p8, p9, p10, p11, p12, p13, p14, p15] ∧ 0 ≤ n ∧ n ≤ 128) ∧ ∀ c0 c1 c2 c3 c4 c5 c6 c7 c8 c9 c10 c11 c12 c13 c14 c15 : Int, Holds (C [p0, p1, p2, p3, p4, p5, p6, p7, p8, p9, p10, p11, p12, p13, p14, p15] n = [c0, c1, c2, c3, c4, c5, c6, c7, c8, c9, c10, c11, c12, c13, c14, c15]) → K (.ag [.i .u8 c0, .i .u8 c1, .i .u8 c2, .i .u8 c3, .i .u8 c4, .i .u8 c5, .i .u8 c6, .i .u8 c7, .i .u8 c8, .i .u8 c9, .i .u8 c10, .i .u8 c11, .i .u8 c12, .i .u8 c13, .i .u8 c14, .i .u8 c15, .i .i64 n]) h
  | _ => False
def tcut4 (C : List Int → Int → List Int) (args : List AV) (h : Hp) (K : AV → Hp → Prop) : Prop := match args with
  | [.ag [.i .u8 p0, .i .u8 p1, .i .u8 p2, .i .u8 p3], .i .i64 n] => Holds (okb [p0, p1, p2, p3] ∧ 0 ≤ n ∧ n ≤ 32) ∧ ∀ c0 c1 c2 c3 : Int, Holds (C [p0, p1, p2, p3] n = [c0, c1, c2, c3]) → K (.ag [.i .u8 c0, .i .u8 c1, .i .u8 c2, .i .u8 c3, .i .i64 n]) h
  | _ => False
def tnetV16 (B : List Int → Int → List Int → Bool) (args : List AV) (h : Hp) (K : AV → Hp → Prop) : Prop := match args with
  | [.ag [.i .u8 p0, .i .u8 p1, .i .u8 p2, .i .u8 p3, .i .u8 p4, .i .u8 p5, .i .u8 p6, .i .u8 p7, .i .u8 p8, .i .u8 p9, .i .u8 p10, .i .u8 p11, .i .u8 p12, .i .u8 p13, .i .u8 p14, .i .u8 p15, .i .i64 n], .ag [.i .u8 x0, .i .u8 x1, .i .u8 x2, .i .u8 x3, .i .u8 x4, .i .u8 x5, .i .u8 x6, .i .u8 x7, .i .u8 x8, .i .u8 x9, .i .u8 x10, .i .u8 x11, .i .u8 x12, .i .u8 x13, .i .u8 x14, .i .u8 x15]] => Holds (okb [p0, p1, p2, p3, p4, p5, p6, p7, p8, p9, p10, p11, p12, p13, p14, p15] ∧ okb [x0, x1, x2, x3, x4, x5, x6, x7, x8, x9, x10, x11, x12, x13, x14, x15]) ∧ ∀ b : Bool, Holds (B [p0, p1, p2, p3, p4, p5, p6, p7, p8, p9, p10, p11, p12, p13, p14, p15] n [x0, x1, x2, x3, x4, x5, x6, x7, x8, x9, x10, x11, x12, x13, x14, x15] = b) → K (.bo b) h
  | _ => False
def tnetV4 (B : List Int → Int → List Int → Bool) (args : List AV) (h : Hp) (K : AV → Hp → Prop) : Prop := match args with
  | [.ag [.i .u8 p0, .i .u8 p1, .i .u8 p2, .i .u8 p3, .i .i64 n], .ag [.i .u8 x0, .i .u8 x1, .i .u8 x2, .i .u8 x3]] => Holds (okb [p0, p1, p2, p3] ∧ okb [x0, x1, x2, x3]) ∧ ∀ b : Bool, Holds (B [p0, p1, p2, p3] n [x0, x1, x2, x3] = b) → K (.bo b) h
  | _ => False
def W5 : Nat → Option Eng.Road := fun r => match r with
  | 6 => some ⟨some ([], (.pure 1 (.any 0 (.old 3 (.eff 2 (.eff 4 (.pure 5 .nil))))))), .nil⟩
  | 7 => some ⟨some ([], (.pure 1 (.any 0 (.old 3 (.eff 2 (.eff 4 (.pure 5 .nil))))))), .nil⟩
  | 8 => some ⟨some ([], (.pure 1 (.pure 2 (.any 0 (.old 4 (.eff 3 (.eff 5 (.pure 6 .nil)))))))), .nil⟩
  | 9 => some ⟨some ([], (.pure 1 (.pure 2 (.pure 3 (.pure 4 (.any 0 (.old 6 (.eff 5 (.eff 7 (.pure 8 .nil)))))))))), .nil⟩
  | 12 => some ⟨some ([], (.any 0 (.old 2 (.old 4 (.old 5 (.pure 6 (.eff 1 (.eff 3 (.pure 7 (.pure 8 (.any 9 (.old 11 (.old 13 (.old 14 (.pure 15 (.eff 10 (.eff 12 (.pure 16 (.pure 17 (.pure 18 (.pure 19 (.any 20 (.eff 21 (.pure 22 (.pure 23 (.pure 24 (.any 25 (.eff 26 (.pure 27 (.pure 28 (.any 29 (.pure 30 (.old 32 (.eff 31 (.eff 33 (.pure 34 (.pure 35 .nil))))))))))))))))))))))))))))))))))))), .nil⟩
  | _ => none
def head5 (a0 a1 a2 a3 b0 b1 b2 b3 p0 p1 p2 p3 p4 p5 p6 p7 p8 p9 p10 p11 p12 p13 p14 p15 x0 x1 x2 x3 x4 x5 x6 x7 x8 x9 x10 x11 x12 x13 x14 x15 : Int) : Nat → Option Head := fun r => match r with
  | 1006 => some (Head.one (Get.and (Get.int 13) (Get.int 14)) fun q => ⟨bads 6 ++ [.p 0 0, .p 1 0, .p 2 0, .p 3 0, .bad, .bad, .bad, .i .i64 q.1, .i .i64 q.2] ++ bads 88, [.cells [.i .u8 a0, .i .u8 a1, .i .u8 a2, .i .u8 a3] true, .cells [.i .u8 b0, .i .u8 b1, .i .u8 b2, .i .u8 b3] true, .cells [.i .u8 p0, .i .u8 p1, .i .u8 p2, .i .u8 p3, .i .u8 p4, .i .u8 p5, .i .u8 p6, .i .u8 p7, .i .u8 p8, .i .u8 p9, .i .u8 p10, .i .u8 p11, .i .u8 p12, .i .u8 p13, .i .u8 p14, .i .u8 p15] true, .cells [.i .u8 x0, .i .u8 x1, .i .u8 x2, .i .u8 x3, .i .u8 x4, .i .u8 x5, .i .u8 x6, .i .u8 x7, .i .u8 x8, .i .u8 x9, .i .u8 x10, .i .u8 x11, .i .u8 x12, .i .u8 x13, .i .u8 x14, .i .u8 x15] true]⟩)
  | 1012 => some (Head.one (Get.int 13) fun q => ⟨bads 6 ++ [.p 0 0, .p 1 0, .p 2 0, .p 3 0, .bad, .bad, .bad, .i .i64 q] ++ bads 89, [.cells [.i .u8 a0, .i .u8 a1, .i .u8 a2, .i .u8 a3] true, .cells [.i .u8 b0, .i .u8 b1, .i .u8 b2, .i .u8 b3] true, .cells [.i .u8 p0, .i .u8 p1, .i .u8 p2, .i .u8 p3, .i .u8 p4, .i .u8 p5, .i .u8 p6, .i .u8 p7, .i .u8 p8, .i .u8 p9, .i .u8 p10, .i .u8 p11, .i .u8 p12, .i .u8 p13, .i .u8 p14, .i .u8 p15] true, .cells [.i .u8 x0, .i .u8 x1, .i .u8 x2, .i .u8 x3, .i .u8 x4, .i .u8 x5, .i .u8 x6, .i .u8 x7, .i .u8 x8, .i .u8 x9, .i .u8 x10, .i .u8 x11, .i .u8 x12, .i .u8 x13, .i .u8 x14, .i .u8 x15] true]⟩)
  | _ => none
noncomputable abbrev TSh (C6 C4 : List Int → Int → List Int) (H6 H4 : List Int → Int → List Int → Bool) : TEnv := tcons 12 (tconst (.bo true)) (tcons 20 (tnetV16 H6) (tcons 22 (tnetV4 H4) (tcons 21 (tcut16 C6) (tcons 23 (tcut4 C4) tnil))))
theorem vc5 (C6 C4 : List Int → Int → List Int) (H6 H4 : List Int → Int → List Int → Bool) (a0 a1 a2 a3 b0 b1 b2 b3 p0 p1 p2 p3 p4 p5 p6 p7 p8 p9 p10 p11 p12 p13 p14 p15 x0 x1 x2 x3 x4 x5 x6 x7 x8 x9 x10 x11 x12 x13 x14 x15 n m : Int) (R : AV → Hp → Prop) : (wpFn P (TSh C6 C4 H6 H4) W5 (head5 a0 a1 a2 a3 b0 b1 b2 b3 p0 p1 p2 p3 p4 p5 p6 p7 p8 p9 p10 p11 p12 p13 p14 p15 x0 x1 x2 x3 x4 x5 x6 x7 x8 x9 x10 x11 x12 x13 x14 x15) 0 Go.Proofs.Tryd.f5 [.ag [.i .u8 a0, .i .u8 a1, .i .u8 a2, .i .u8 a3], .ag [.i .u8 b0, .i .u8 b1, .i .u8 b2, .i .u8 b3], .ag [.i .u8 p0, .i .u8 p1, .i .u8 p2, .i .u8 p3, .i .u8 p4, .i .u8 p5, .i .u8 p6, .i .u8 p7, .i .u8 p8, .i .u8 p9, .i .u8 p10, .i .u8 p11, .i .u8 p12, .i .u8 p13, .i .u8 p14, .i .u8 p15], .ag [.i .u8 x0, .i .u8 x1, .i .u8 x2, .i .u8 x3, .i .u8 x4, .i .u8 x5, .i .u8 x6, .i .u8 x7, .i .u8 x8, .i .u8 x9, .i .u8 x10, .i .u8 x11, .i .u8 x12, .i .u8 x13, .i .u8 x14, .i .u8 x15], .i .u8 n, .i .u8 m] [] R) = (∃ (J : Int × Int → Prop), br (decide (IntKind.wrap IntKind.i64 (Int.tmod m (129 : Int)) > IntKind.wrap IntKind.i64 (Int.tmod n (129 : Int)))) (Wk (0 : Nat) { t := [.bad, .bad, .bad, .bad, .bad, .bad, AV.p (0 : Nat) (0 : Nat), AV.p (1 : Nat) (0 : Nat), AV.p (2 : Nat) (0 : Nat), AV.p (3 : Nat) (0 : Nat), .bad, .bad, .bad, AV.i IntKind.i64 (IntKind.wrap IntKind.i64 (Int.tmod m (129 : Int))), AV.i IntKind.i64 (IntKind.wrap IntKind.i64 (Int.tmod n (129 : Int))), .bad, .bad, .bad, .bad, .bad, .bad, .bad, .bad, .bad, .bad, .bad, .bad, .bad, .bad, .bad, .bad, .bad, .bad, .bad, .bad, .bad, .bad, .bad, .bad, .bad, .bad, .bad, .bad, .bad, .bad, .bad, .bad, .bad, .bad, .bad, .bad, .bad, .bad, .bad, .bad, .bad, .bad, .bad, .bad, .bad, .bad, .bad, .bad, .bad, .bad, .bad, .bad, .bad, .bad, .bad, .bad, .bad, .bad, .bad, .bad, .bad, .bad, .bad, .bad, .bad, .bad, .bad, .bad, .bad, .bad, .bad, .bad, .bad, .bad, .bad, .bad, .bad, .bad, .bad, .bad, .bad, .bad, .bad, .bad, .bad, .bad, .bad, .bad], h := [Blk.cells [AV.i IntKind.u8 a0, AV.i IntKind.u8 a1, AV.i IntKind.u8 a2, AV.i IntKind.u8 a3] true, Blk.cells [AV.i IntKind.u8 b0, AV.i IntKind.u8 b1, AV.i IntKind.u8 b2, AV.i IntKind.u8 b3] true, Blk.cells [AV.i IntKind.u8 p0, AV.i IntKind.u8 p1, AV.i IntKind.u8 p2, AV.i IntKind.u8 p3, AV.i IntKind.u8 p4, AV.i IntKind.u8 p5, AV.i IntKind.u8 p6, AV.i IntKind.u8 p7, AV.i IntKind.u8 p8, AV.i IntKind.u8 p9, AV.i IntKind.u8 p10, AV.i IntKind.u8 p11, AV.i IntKind.u8 p12, AV.i IntKind.u8 p13, AV.i IntKind.u8 p14, AV.i IntKind.u8 p15] true, Blk.cells [AV.i IntKind.u8 x0, AV.i IntKind.u8 x1, AV.i IntKind.u8 x2, AV.i IntKind.u8 x3, AV.i IntKind.u8 x4, AV.i IntKind.u8 x5, AV.i IntKind.u8 x6, AV.i IntKind.u8 x7, AV.i IntKind.u8 x8, AV.i IntKind.u8 x9, AV.i IntKind.u8 x10, AV.i IntKind.u8 x11, AV.i IntKind.u8 x12, AV.i IntKind.u8 x13, AV.i IntKind.u8 x14, AV.i IntKind.u8 x15] true] } { t := [.bad, .bad, .bad, .bad, .bad, .bad, AV.p (0 : Nat) (0 : Nat), AV.p (1 : Nat) (0 : Nat), AV.p (2 : Nat) (0 : Nat), AV.p (3 : Nat) (0 : Nat), .bad, .bad, .bad, AV.i IntKind.i64 (IntKind.wrap IntKind.i64 (Int.tmod m (129 : Int))), AV.i IntKind.i64 (IntKind.wrap IntKind.i64 (Int.tmod n (129 : Int))), .bad, .bad, .bad, .bad, .bad, .bad, .bad, .bad, .bad, .bad, .bad, .bad, .bad, .bad, .bad, .bad, .bad, .bad, .bad, .bad, .bad, .bad, .bad, .bad, .bad, .bad, .bad, .bad, .bad, .bad, .bad, .bad, .bad, .bad, .bad, .bad, .bad, .bad, .bad, .bad, .bad, .bad, .bad, .bad, .bad, .bad, .bad, .bad, .bad, .bad, .bad, .bad, .bad, .bad, .bad, .bad, .bad, .bad, .bad, .bad, .bad, .bad, .bad, .bad, .bad, .bad, .bad, .bad, .bad, .bad, .bad, .bad, .bad, .bad, .bad, .bad, .bad, .bad, .bad, .bad, .bad, .bad, .bad, .bad, .bad, .bad, .bad, .bad], h := [Blk.cells [AV.i IntKind.u8 a0, AV.i IntKind.u8 a1, AV.i IntKind.u8 a2, AV.i IntKind.u8 a3] true, Blk.cells [AV.i IntKind.u8 b0, AV.i IntKind.u8 b1, AV.i IntKind.u8 b2, AV.i IntKind.u8 b3] true, Blk.cells [AV.i IntKind.u8 p0, AV.i IntKind.u8 p1, AV.i IntKind.u8 p2, AV.i IntKind.u8 p3, AV.i IntKind.u8 p4, AV.i IntKind.u8 p5, AV.i IntKind.u8 p6, AV.i IntKind.u8 p7, AV.i IntKind.u8 p8, AV.i IntKind.u8 p9, AV.i IntKind.u8 p10, AV.i IntKind.u8 p11, AV.i IntKind.u8 p12, AV.i IntKind.u8 p13, AV.i IntKind.u8 p14, AV.i IntKind.u8 p15] true, Blk.cells [AV.i IntKind.u8 x0, AV.i IntKind.u8 x1, AV.i IntKind.u8 x2, AV.i IntKind.u8 x3, AV.i IntKind.u8 x4, AV.i IntKind.u8 x5, AV.i IntKind.u8 x6, AV.i IntKind.u8 x7, AV.i IntKind.u8 x8, AV.i IntKind.u8 x9, AV.i IntKind.u8 x10, AV.i IntKind.u8 x11, AV.i IntKind.u8 x12, AV.i IntKind.u8 x13, AV.i IntKind.u8 x14, AV.i IntKind.u8 x15] true] } ∧ J (IntKind.wrap IntKind.i64 (Int.tmod m (129 : Int)), IntKind.wrap IntKind.i64 (Int.tmod n (129 : Int)))) (Wk (0 : Nat) { t := [.bad, .bad, .bad, .bad, .bad, .bad, AV.p (0 : Nat) (0 : Nat), AV.p (1 : Nat) (0 : Nat), AV.p (2 : Nat) (0 : Nat), AV.p (3 : Nat) (0 : Nat), .bad, .bad, .bad, AV.i IntKind.i64 (IntKind.wrap IntKind.i64 (Int.tmod n (129 : Int))), AV.i IntKind.i64 (IntKind.wrap IntKind.i64 (Int.tmod m (129 : Int))), .bad, .bad, .bad, .bad, .bad, .bad, .bad, .bad, .bad, .bad, .bad, .bad, .bad, .bad, .bad, .bad, .bad, .bad, .bad, .bad, .bad, .bad, .bad, .bad, .bad, .bad, .bad, .bad, .bad, .bad, .bad, .bad, .bad, .bad, .bad, .bad, .bad, .bad, .bad, .bad, .bad, .bad, .bad, .bad, .bad, .bad, .bad, .bad, .bad, .bad, .bad, .bad, .bad, .bad, .bad, .bad, .bad, .bad, .bad, .bad, .bad, .bad, .bad, .bad, .bad, .bad, .bad, .bad, .bad, .bad, .bad, .bad, .bad, .bad, .bad, .bad, .bad, .bad, .bad, .bad, .bad, .bad, .bad, .bad, .bad, .bad, .bad, .bad], h := [Blk.cells [AV.i IntKind.u8 a0, AV.i IntKind.u8 a1, AV.i IntKind.u8 a2, AV.i IntKind.u8 a3] true, Blk.cells [AV.i IntKind.u8 b0, AV.i IntKind.u8 b1, AV.i IntKind.u8 b2, AV.i IntKind.u8 b3] true, Blk.cells [AV.i IntKind.u8 p0, AV.i IntKind.u8 p1, AV.i IntKind.u8 p2, AV.i IntKind.u8 p3, AV.i IntKind.u8 p4, AV.i IntKind.u8 p5, AV.i IntKind.u8 p6, AV.i IntKind.u8 p7, AV.i IntKind.u8 p8, AV.i IntKind.u8 p9, AV.i IntKind.u8 p10, AV.i IntKind.u8 p11, AV.i IntKind.u8 p12, AV.i IntKind.u8 p13, AV.i IntKind.u8 p14, AV.i IntKind.u8 p15] true, Blk.cells [AV.i IntKind.u8 x0, AV.i IntKind.u8 x1, AV.i IntKind.u8 x2, AV.i IntKind.u8 x3, AV.i IntKind.u8 x4, AV.i IntKind.u8 x5, AV.i IntKind.u8 x6, AV.i IntKind.u8 x7, AV.i IntKind.u8 x8, AV.i IntKind.u8 x9, AV.i IntKind.u8 x10, AV.i IntKind.u8 x11, AV.i IntKind.u8 x12, AV.i IntKind.u8 x13, AV.i IntKind.u8 x14, AV.i IntKind.u8 x15] true] } { t := [.bad, .bad, .bad, .bad, .bad, .bad, AV.p (0 : Nat) (0 : Nat), AV.p (1 : Nat) (0 : Nat), AV.p (2 : Nat) (0 : Nat), AV.p (3 : Nat) (0 : Nat), .bad, .bad, .bad, AV.i IntKind.i64 (IntKind.wrap IntKind.i64 (Int.tmod n (129 : Int))), AV.i IntKind.i64 (IntKind.wrap IntKind.i64 (Int.tmod m (129 : Int))), .bad, .bad, .bad, .bad, .bad, .bad, .bad, .bad, .bad, .bad, .bad, .bad, .bad, .bad, .bad, .bad, .bad, .bad, .bad, .bad, .bad, .bad, .bad, .bad, .bad, .bad, .bad, .bad, .bad, .bad, .bad, .bad, .bad, .bad, .bad, .bad, .bad, .bad, .bad, .bad, .bad, .bad, .bad, .bad, .bad, .bad, .bad, .bad, .bad, .bad, .bad, .bad, .bad, .bad, .bad, .bad, .bad, .bad, .bad, .bad, .bad, .bad, .bad, .bad, .bad, .bad, .bad, .bad, .bad, .bad, .bad, .bad, .bad, .bad, .bad, .bad, .bad, .bad, .bad, .bad, .bad, .bad, .bad, .bad, .bad, .bad, .bad, .bad], h := [Blk.cells [AV.i IntKind.u8 a0, AV.i IntKind.u8 a1, AV.i IntKind.u8 a2, AV.i IntKind.u8 a3] true, Blk.cells [AV.i IntKind.u8 b0, AV.i IntKind.u8 b1, AV.i IntKind.u8 b2, AV.i IntKind.u8 b3] true, Blk.cells [AV.i IntKind.u8 p0, AV.i IntKind.u8 p1, AV.i IntKind.u8 p2, AV.i IntKind.u8 p3, AV.i IntKind.u8 p4, AV.i IntKind.u8 p5, AV.i IntKind.u8 p6, AV.i IntKind.u8 p7, AV.i IntKind.u8 p8, AV.i IntKind.u8 p9, AV.i IntKind.u8 p10, AV.i IntKind.u8 p11, AV.i IntKind.u8 p12, AV.i IntKind.u8 p13, AV.i IntKind.u8 p14, AV.i IntKind.u8 p15] true, Blk.cells [AV.i IntKind.u8 x0, AV.i IntKind.u8 x1, AV.i IntKind.u8 x2, AV.i IntKind.u8 x3, AV.i IntKind.u8 x4, AV.i IntKind.u8 x5, AV.i IntKind.u8 x6, AV.i IntKind.u8 x7, AV.i IntKind.u8 x8, AV.i IntKind.u8 x9, AV.i IntKind.u8 x10, AV.i IntKind.u8 x11, AV.i IntKind.u8 x12, AV.i IntKind.u8 x13, AV.i IntKind.u8 x14, AV.i IntKind.u8 x15] true] } ∧ J (IntKind.wrap IntKind.i64 (Int.tmod n (129 : Int)), IntKind.wrap IntKind.i64 (Int.tmod m (129 : Int)))) ∧ ∀ (a : Int × Int), J a → Holds (okb [p0, p1, p2, p3, p4, p5, p6, p7, p8, p9, p10, p11, p12, p13, p14, p15] ∧ (0 : Int) ≤ Prod.fst a ∧ Prod.fst a ≤ (128 : Int)) ∧ ∀ (c0 c1 c2 c3 c4 c5 c6 c7 c8 c9 c10 c11 c12 c13 c14 c15 : Int), Holds (C6 [p0, p1, p2, p3, p4, p5, p6, p7, p8, p9, p10, p11, p12, p13, p14, p15] (Prod.fst a) = [c0, c1, c2, c3, c4, c5, c6, c7, c8, c9, c10, c11, c12, c13, c14, c15]) → Holds (okb [c0, c1, c2, c3, c4, c5, c6, c7, c8, c9, c10, c11, c12, c13, c14, c15] ∧ okb [x0, x1, x2, x3, x4, x5, x6, x7, x8, x9, x10, x11, x12, x13, x14, x15]) ∧ ∀ (b : Bool), Holds (H6 [c0, c1, c2, c3, c4, c5, c6, c7, c8, c9, c10, c11, c12, c13, c14, c15] (Prod.fst a) [x0, x1, x2, x3, x4, x5, x6, x7, x8, x9, x10, x11, x12, x13, x14, x15] = b) → Holds (okb [p0, p1, p2, p3, p4, p5, p6, p7, p8, p9, p10, p11, p12, p13, p14, p15] ∧ (0 : Int) ≤ Prod.snd a ∧ Prod.snd a ≤ (128 : Int)) ∧ ∀ (c0 c1 c2 c3 c4 c5 c6 c7 c8 c9 c10 c11 c12 c13 c14 c15 : Int), Holds (C6 [p0, p1, p2, p3, p4, p5, p6, p7, p8, p9, p10, p11, p12, p13, p14, p15] (Prod.snd a) = [c0, c1, c2, c3, c4, c5, c6, c7, c8, c9, c10, c11, c12, c13, c14, c15]) → Holds (okb [c0, c1, c2, c3, c4, c5, c6, c7, c8, c9, c10, c11, c12, c13, c14, c15] ∧ okb [x0, x1, x2, x3, x4, x5, x6, x7, x8, x9, x10, x11, x12, x13, x14, x15]) ∧ ∀ (b_1 : Bool), Holds (H6 [c0, c1, c2, c3, c4, c5, c6, c7, c8, c9, c10, c11, c12, c13, c14, c15] (Prod.snd a) [x0, x1, x2, x3, x4, x5, x6, x7, x8, x9, x10, x11, x12, x13, x14, x15] = b_1) → Holds (okb [a0, a1, a2, a3] ∧ (0 : Int) ≤ Int.tmod (Prod.fst a) (33 : Int) ∧ Int.tmod (Prod.fst a) (33 : Int) ≤ (32 : Int)) ∧ ∀ (c0 c1 c2 c3 : Int), Holds (C4 [a0, a1, a2, a3] (Int.tmod (Prod.fst a) (33 : Int)) = [c0, c1, c2, c3]) → Holds (okb [c0, c1, c2, c3] ∧ okb [b0, b1, b2, b3]) ∧ ∀ (b_2 : Bool), Holds (H4 [c0, c1, c2, c3] (Int.tmod (Prod.fst a) (33 : Int)) [b0, b1, b2, b3] = b_2) → Holds (okb [a0, a1, a2, a3] ∧ ((0 : Int) ≤ if Int.tmod (Prod.fst a) (33 : Int) < Prod.snd a then Int.tmod (Prod.fst a) (33 : Int) else Prod.snd a) ∧ (if Int.tmod (Prod.fst a) (33 : Int) < Prod.snd a then Int.tmod (Prod.fst a) (33 : Int) else Prod.snd a) ≤ (32 : Int)) ∧ ∀ (c0 c1 c2 c3 : Int), Holds (C4 [a0, a1, a2, a3] (if Int.tmod (Prod.fst a) (33 : Int) < Prod.snd a then Int.tmod (Prod.fst a) (33 : Int) else Prod.snd a) = [c0, c1, c2, c3]) → Holds (okb [c0, c1, c2, c3] ∧ okb [b0, b1, b2, b3]) ∧ ∀ (b_3 : Bool), Holds (H4 [c0, c1, c2, c3] (if Int.tmod (Prod.fst a) (33 : Int) < Prod.snd a then Int.tmod (Prod.fst a) (33 : Int) else Prod.snd a) [b0, b1, b2, b3] = b_3) → ∃ (J : Int → Prop), br b (br (!b_1) (R (AV.bo false) [Blk.cells [AV.i IntKind.u8 a0, AV.i IntKind.u8 a1, AV.i IntKind.u8 a2, AV.i IntKind.u8 a3] true, Blk.cells [AV.i IntKind.u8 b0, AV.i IntKind.u8 b1, AV.i IntKind.u8 b2, AV.i IntKind.u8 b3] true, Blk.cells [AV.i IntKind.u8 p0, AV.i IntKind.u8 p1, AV.i IntKind.u8 p2, AV.i IntKind.u8 p3, AV.i IntKind.u8 p4, AV.i IntKind.u8 p5, AV.i IntKind.u8 p6, AV.i IntKind.u8 p7, AV.i IntKind.u8 p8, AV.i IntKind.u8 p9, AV.i IntKind.u8 p10, AV.i IntKind.u8 p11, AV.i IntKind.u8 p12, AV.i IntKind.u8 p13, AV.i IntKind.u8 p14, AV.i IntKind.u8 p15] true, Blk.cells [AV.i IntKind.u8 x0, AV.i IntKind.u8 x1, AV.i IntKind.u8 x2, AV.i IntKind.u8 x3, AV.i IntKind.u8 x4, AV.i IntKind.u8 x5, AV.i IntKind.u8 x6, AV.i IntKind.u8 x7, AV.i IntKind.u8 x8, AV.i IntKind.u8 x9, AV.i IntKind.u8 x10, AV.i IntKind.u8 x11, AV.i IntKind.u8 x12, AV.i IntKind.u8 x13, AV.i IntKind.u8 x14, AV.i IntKind.u8 x15] true]) (br b_2 (br (!b_3) (R (AV.bo false) [Blk.cells [AV.i IntKind.u8 a0, AV.i IntKind.u8 a1, AV.i IntKind.u8 a2, AV.i IntKind.u8 a3] true, Blk.cells [AV.i IntKind.u8 b0, AV.i IntKind.u8 b1, AV.i IntKind.u8 b2, AV.i IntKind.u8 b3] true, Blk.cells [AV.i IntKind.u8 p0, AV.i IntKind.u8 p1, AV.i IntKind.u8 p2, AV.i IntKind.u8 p3, AV.i IntKind.u8 p4, AV.i IntKind.u8 p5, AV.i IntKind.u8 p6, AV.i IntKind.u8 p7, AV.i IntKind.u8 p8, AV.i IntKind.u8 p9, AV.i IntKind.u8 p10, AV.i IntKind.u8 p11, AV.i IntKind.u8 p12, AV.i IntKind.u8 p13, AV.i IntKind.u8 p14, AV.i IntKind.u8 p15] true, Blk.cells [AV.i IntKind.u8 x0, AV.i IntKind.u8 x1, AV.i IntKind.u8 x2, AV.i IntKind.u8 x3, AV.i IntKind.u8 x4, AV.i IntKind.u8 x5, AV.i IntKind.u8 x6, AV.i IntKind.u8 x7, AV.i IntKind.u8 x8, AV.i IntKind.u8 x9, AV.i IntKind.u8 x10, AV.i IntKind.u8 x11, AV.i IntKind.u8 x12, AV.i IntKind.u8 x13, AV.i IntKind.u8 x14, AV.i IntKind.u8 x15] true]) (Wk (0 : Nat) { t := [.bad, .bad, .bad, .bad, .bad, .bad, AV.p (0 : Nat) (0 : Nat), AV.p (1 : Nat) (0 : Nat), AV.p (2 : Nat) (0 : Nat), AV.p (3 : Nat) (0 : Nat), .bad, .bad, .bad, AV.i IntKind.i64 (Prod.fst a), .bad, .bad, .bad, .bad, .bad, .bad, .bad, .bad, .bad, .bad, .bad, .bad, .bad, .bad, .bad, .bad, .bad, .bad, .bad, .bad, .bad, .bad, .bad, .bad, .bad, .bad, .bad, .bad, .bad, .bad, .bad, .bad, .bad, .bad, .bad, .bad, .bad, .bad, .bad, .bad, .bad, .bad, .bad, .bad, .bad, .bad, .bad, .bad, .bad, .bad, .bad, .bad, .bad, .bad, .bad, .bad, .bad, .bad, .bad, .bad, .bad, .bad, .bad, .bad, .bad, .bad, .bad, .bad, .bad, .bad, .bad, .bad, .bad, .bad, .bad, .bad, .bad, .bad, .bad, .bad, .bad, .bad, .bad, .bad, .bad, .bad, .bad, .bad, .bad], h := [Blk.cells [AV.i IntKind.u8 a0, AV.i IntKind.u8 a1, AV.i IntKind.u8 a2, AV.i IntKind.u8 a3] true, Blk.cells [AV.i IntKind.u8 b0, AV.i IntKind.u8 b1, AV.i IntKind.u8 b2, AV.i IntKind.u8 b3] true, Blk.cells [AV.i IntKind.u8 p0, AV.i IntKind.u8 p1, AV.i IntKind.u8 p2, AV.i IntKind.u8 p3, AV.i IntKind.u8 p4, AV.i IntKind.u8 p5, AV.i IntKind.u8 p6, AV.i IntKind.u8 p7, AV.i IntKind.u8 p8, AV.i IntKind.u8 p9, AV.i IntKind.u8 p10, AV.i IntKind.u8 p11, AV.i IntKind.u8 p12, AV.i IntKind.u8 p13, AV.i IntKind.u8 p14, AV.i IntKind.u8 p15] true, Blk.cells [AV.i IntKind.u8 x0, AV.i IntKind.u8 x1, AV.i IntKind.u8 x2, AV.i IntKind.u8 x3, AV.i IntKind.u8 x4, AV.i IntKind.u8 x5, AV.i IntKind.u8 x6, AV.i IntKind.u8 x7, AV.i IntKind.u8 x8, AV.i IntKind.u8 x9, AV.i IntKind.u8 x10, AV.i IntKind.u8 x11, AV.i IntKind.u8 x12, AV.i IntKind.u8 x13, AV.i IntKind.u8 x14, AV.i IntKind.u8 x15] true] } { t := [.bad, .bad, .bad, .bad, .bad, .bad, AV.p (0 : Nat) (0 : Nat), AV.p (1 : Nat) (0 : Nat), AV.p (2 : Nat) (0 : Nat), AV.p (3 : Nat) (0 : Nat), .bad, .bad, .bad, AV.i IntKind.i64 (Prod.fst a), .bad, .bad, .bad, .bad, .bad, .bad, .bad, .bad, .bad, .bad, .bad, .bad, .bad, .bad, .bad, .bad, .bad, .bad, .bad, .bad, .bad, .bad, .bad, .bad, .bad, .bad, .bad, .bad, .bad, .bad, .bad, .bad, .bad, .bad, .bad, .bad, .bad, .bad, .bad, .bad, .bad, .bad, .bad, .bad, .bad, .bad, .bad, .bad, .bad, .bad, .bad, .bad, .bad, .bad, .bad, .bad, .bad, .bad, .bad, .bad, .bad, .bad, .bad, .bad, .bad, .bad, .bad, .bad, .bad, .bad, .bad, .bad, .bad, .bad, .bad, .bad, .bad, .bad, .bad, .bad, .bad, .bad, .bad, .bad, .bad, .bad, .bad, .bad, .bad], h := [Blk.cells [AV.i IntKind.u8 a0, AV.i IntKind.u8 a1, AV.i IntKind.u8 a2, AV.i IntKind.u8 a3] true, Blk.cells [AV.i IntKind.u8 b0, AV.i IntKind.u8 b1, AV.i IntKind.u8 b2, AV.i IntKind.u8 b3] true, Blk.cells [AV.i IntKind.u8 p0, AV.i IntKind.u8 p1, AV.i IntKind.u8 p2, AV.i IntKind.u8 p3, AV.i IntKind.u8 p4, AV.i IntKind.u8 p5, AV.i IntKind.u8 p6, AV.i IntKind.u8 p7, AV.i IntKind.u8 p8, AV.i IntKind.u8 p9, AV.i IntKind.u8 p10, AV.i IntKind.u8 p11, AV.i IntKind.u8 p12, AV.i IntKind.u8 p13, AV.i IntKind.u8 p14, AV.i IntKind.u8 p15] true, Blk.cells [AV.i IntKind.u8 x0, AV.i IntKind.u8 x1, AV.i IntKind.u8 x2, AV.i IntKind.u8 x3, AV.i IntKind.u8 x4, AV.i IntKind.u8 x5, AV.i IntKind.u8 x6, AV.i IntKind.u8 x7, AV.i IntKind.u8 x8, AV.i IntKind.u8 x9, AV.i IntKind.u8 x10, AV.i IntKind.u8 x11, AV.i IntKind.u8 x12, AV.i IntKind.u8 x13, AV.i IntKind.u8 x14, AV.i IntKind.u8 x15] true] } ∧ J (Prod.fst a))) (Wk (0 : Nat) { t := [.bad, .bad, .bad, .bad, .bad, .bad, AV.p (0 : Nat) (0 : Nat), AV.p (1 : Nat) (0 : Nat), AV.p (2 : Nat) (0 : Nat), AV.p (3 : Nat) (0 : Nat), .bad, .bad, .bad, AV.i IntKind.i64 (Prod.fst a), .bad, .bad, .bad, .bad, .bad, .bad, .bad, .bad, .bad, .bad, .bad, .bad, .bad, .bad, .bad, .bad, .bad, .bad, .bad, .bad, .bad, .bad, .bad, .bad, .bad, .bad, .bad, .bad, .bad, .bad, .bad, .bad, .bad, .bad, .bad, .bad, .bad, .bad, .bad, .bad, .bad, .bad, .bad, .bad, .bad, .bad, .bad, .bad, .bad, .bad, .bad, .bad, .bad, .bad, .bad, .bad, .bad, .bad, .bad, .bad, .bad, .bad, .bad, .bad, .bad, .bad, .bad, .bad, .bad, .bad, .bad, .bad, .bad, .bad, .bad, .bad, .bad, .bad, .bad, .bad, .bad, .bad, .bad, .bad, .bad, .bad, .bad, .bad, .bad], h := [Blk.cells [AV.i IntKind.u8 a0, AV.i IntKind.u8 a1, AV.i IntKind.u8 a2, AV.i IntKind.u8 a3] true, Blk.cells [AV.i IntKind.u8 b0, AV.i IntKind.u8 b1, AV.i IntKind.u8 b2, AV.i IntKind.u8 b3] true, Blk.cells [AV.i IntKind.u8 p0, AV.i IntKind.u8 p1, AV.i IntKind.u8 p2, AV.i IntKind.u8 p3, AV.i IntKind.u8 p4, AV.i IntKind.u8 p5, AV.i IntKind.u8 p6, AV.i IntKind.u8 p7, AV.i IntKind.u8 p8, AV.i IntKind.u8 p9, AV.i IntKind.u8 p10, AV.i IntKind.u8 p11, AV.i IntKind.u8 p12, AV.i IntKind.u8 p13, AV.i IntKind.u8 p14, AV.i IntKind.u8 p15] true, Blk.cells [AV.i IntKind.u8 x0, AV.i IntKind.u8 x1, AV.i IntKind.u8 x2, AV.i IntKind.u8 x3, AV.i IntKind.u8 x4, AV.i IntKind.u8 x5, AV.i IntKind.u8 x6, AV.i IntKind.u8 x7, AV.i IntKind.u8 x8, AV.i IntKind.u8 x9, AV.i IntKind.u8 x10, AV.i IntKind.u8 x11, AV.i IntKind.u8 x12, AV.i IntKind.u8 x13, AV.i IntKind.u8 x14, AV.i IntKind.u8 x15] true] } { t := [.bad, .bad, .bad, .bad, .bad, .bad, AV.p (0 : Nat) (0 : Nat), AV.p (1 : Nat) (0 : Nat), AV.p (2 : Nat) (0 : Nat), AV.p (3 : Nat) (0 : Nat), .bad, .bad, .bad, AV.i IntKind.i64 (Prod.fst a), .bad, .bad, .bad, .bad, .bad, .bad, .bad, .bad, .bad, .bad, .bad, .bad, .bad, .bad, .bad, .bad, .bad, .bad, .bad, .bad, .bad, .bad, .bad, .bad, .bad, .bad, .bad, .bad, .bad, .bad, .bad, .bad, .bad, .bad, .bad, .bad, .bad, .bad, .bad, .bad, .bad, .bad, .bad, .bad, .bad, .bad, .bad, .bad, .bad, .bad, .bad, .bad, .bad, .bad, .bad, .bad, .bad, .bad, .bad, .bad, .bad, .bad, .bad, .bad, .bad, .bad, .bad, .bad, .bad, .bad, .bad, .bad, .bad, .bad, .bad, .bad, .bad, .bad, .bad, .bad, .bad, .bad, .bad, .bad, .bad, .bad, .bad, .bad, .bad], h := [Blk.cells [AV.i IntKind.u8 a0, AV.i IntKind.u8 a1, AV.i IntKind.u8 a2, AV.i IntKind.u8 a3] true, Blk.cells [AV.i IntKind.u8 b0, AV.i IntKind.u8 b1, AV.i IntKind.u8 b2, AV.i IntKind.u8 b3] true, Blk.cells [AV.i IntKind.u8 p0, AV.i IntKind.u8 p1, AV.i IntKind.u8 p2, AV.i IntKind.u8 p3, AV.i IntKind.u8 p4, AV.i IntKind.u8 p5, AV.i IntKind.u8 p6, AV.i IntKind.u8 p7, AV.i IntKind.u8 p8, AV.i IntKind.u8 p9, AV.i IntKind.u8 p10, AV.i IntKind.u8 p11, AV.i IntKind.u8 p12, AV.i IntKind.u8 p13, AV.i IntKind.u8 p14, AV.i IntKind.u8 p15] true, Blk.cells [AV.i IntKind.u8 x0, AV.i IntKind.u8 x1, AV.i IntKind.u8 x2, AV.i IntKind.u8 x3, AV.i IntKind.u8 x4, AV.i IntKind.u8 x5, AV.i IntKind.u8 x6, AV.i IntKind.u8 x7, AV.i IntKind.u8 x8, AV.i IntKind.u8 x9, AV.i IntKind.u8 x10, AV.i IntKind.u8 x11, AV.i IntKind.u8 x12, AV.i IntKind.u8 x13, AV.i IntKind.u8 x14, AV.i IntKind.u8 x15] true] } ∧ J (Prod.fst a)))) (br b_2 (br (!b_3) (R (AV.bo false) [Blk.cells [AV.i IntKind.u8 a0, AV.i IntKind.u8 a1, AV.i IntKind.u8 a2, AV.i IntKind.u8 a3] true, Blk.cells [AV.i IntKind.u8 b0, AV.i IntKind.u8 b1, AV.i IntKind.u8 b2, AV.i IntKind.u8 b3] true, Blk.cells [AV.i IntKind.u8 p0, AV.i IntKind.u8 p1, AV.i IntKind.u8 p2, AV.i IntKind.u8 p3, AV.i IntKind.u8 p4, AV.i IntKind.u8 p5, AV.i IntKind.u8 p6, AV.i IntKind.u8 p7, AV.i IntKind.u8 p8, AV.i IntKind.u8 p9, AV.i IntKind.u8 p10, AV.i IntKind.u8 p11, AV.i IntKind.u8 p12, AV.i IntKind.u8 p13, AV.i IntKind.u8 p14, AV.i IntKind.u8 p15] true, Blk.cells [AV.i IntKind.u8 x0, AV.i IntKind.u8 x1, AV.i IntKind.u8 x2, AV.i IntKind.u8 x3, AV.i IntKind.u8 x4, AV.i IntKind.u8 x5, AV.i IntKind.u8 x6, AV.i IntKind.u8 x7, AV.i IntKind.u8 x8, AV.i IntKind.u8 x9, AV.i IntKind.u8 x10, AV.i IntKind.u8 x11, AV.i IntKind.u8 x12, AV.i IntKind.u8 x13, AV.i IntKind.u8 x14, AV.i IntKind.u8 x15] true]) (Wk (0 : Nat) { t := [.bad, .bad, .bad, .bad, .bad, .bad, AV.p (0 : Nat) (0 : Nat), AV.p (1 : Nat) (0 : Nat), AV.p (2 : Nat) (0 : Nat), AV.p (3 : Nat) (0 : Nat), .bad, .bad, .bad, AV.i IntKind.i64 (Prod.fst a), .bad, .bad, .bad, .bad, .bad, .bad, .bad, .bad, .bad, .bad, .bad, .bad, .bad, .bad, .bad, .bad, .bad, .bad, .bad, .bad, .bad, .bad, .bad, .bad, .bad, .bad, .bad, .bad, .bad, .bad, .bad, .bad, .bad, .bad, .bad, .bad, .bad, .bad, .bad, .bad, .bad, .bad, .bad, .bad, .bad, .bad, .bad, .bad, .bad, .bad, .bad, .bad, .bad, .bad, .bad, .bad, .bad, .bad, .bad, .bad, .bad, .bad, .bad, .bad, .bad, .bad, .bad, .bad, .bad, .bad, .bad, .bad, .bad, .bad, .bad, .bad, .bad, .bad, .bad, .bad, .bad, .bad, .bad, .bad, .bad, .bad, .bad, .bad, .bad], h := [Blk.cells [AV.i IntKind.u8 a0, AV.i IntKind.u8 a1, AV.i IntKind.u8 a2, AV.i IntKind.u8 a3] true, Blk.cells [AV.i IntKind.u8 b0, AV.i IntKind.u8 b1, AV.i IntKind.u8 b2, AV.i IntKind.u8 b3] true, Blk.cells [AV.i IntKind.u8 p0, AV.i IntKind.u8 p1, AV.i IntKind.u8 p2, AV.i IntKind.u8 p3, AV.i IntKind.u8 p4, AV.i IntKind.u8 p5, AV.i IntKind.u8 p6, AV.i IntKind.u8 p7, AV.i IntKind.u8 p8, AV.i IntKind.u8 p9, AV.i IntKind.u8 p10, AV.i IntKind.u8 p11, AV.i IntKind.u8 p12, AV.i IntKind.u8 p13, AV.i IntKind.u8 p14, AV.i IntKind.u8 p15] true, Blk.cells [AV.i IntKind.u8 x0, AV.i IntKind.u8 x1, AV.i IntKind.u8 x2, AV.i IntKind.u8 x3, AV.i IntKind.u8 x4, AV.i IntKind.u8 x5, AV.i IntKind.u8 x6, AV.i IntKind.u8 x7, AV.i IntKind.u8 x8, AV.i IntKind.u8 x9, AV.i IntKind.u8 x10, AV.i IntKind.u8 x11, AV.i IntKind.u8 x12, AV.i IntKind.u8 x13, AV.i IntKind.u8 x14, AV.i IntKind.u8 x15] true] } { t := [.bad, .bad, .bad, .bad, .bad, .bad, AV.p (0 : Nat) (0 : Nat), AV.p (1 : Nat) (0 : Nat), AV.p (2 : Nat) (0 : Nat), AV.p (3 : Nat) (0 : Nat), .bad, .bad, .bad, AV.i IntKind.i64 (Prod.fst a), .bad, .bad, .bad, .bad, .bad, .bad, .bad, .bad, .bad, .bad, .bad, .bad, .bad, .bad, .bad, .bad, .bad, .bad, .bad, .bad, .bad, .bad, .bad, .bad, .bad, .bad, .bad, .bad, .bad, .bad, .bad, .bad, .bad, .bad, .bad, .bad, .bad, .bad, .bad, .bad, .bad, .bad, .bad, .bad, .bad, .bad, .bad, .bad, .bad, .bad, .bad, .bad, .bad, .bad, .bad, .bad, .bad, .bad, .bad, .bad, .bad, .bad, .bad, .bad, .bad, .bad, .bad, .bad, .bad, .bad, .bad, .bad, .bad, .bad, .bad, .bad, .bad, .bad, .bad, .bad, .bad, .bad, .bad, .bad, .bad, .bad, .bad, .bad, .bad], h := [Blk.cells [AV.i IntKind.u8 a0, AV.i IntKind.u8 a1, AV.i IntKind.u8 a2, AV.i IntKind.u8 a3] true, Blk.cells [AV.i IntKind.u8 b0, AV.i IntKind.u8 b1, AV.i IntKind.u8 b2, AV.i IntKind.u8 b3] true, Blk.cells [AV.i IntKind.u8 p0, AV.i IntKind.u8 p1, AV.i IntKind.u8 p2, AV.i IntKind.u8 p3, AV.i IntKind.u8 p4, AV.i IntKind.u8 p5, AV.i IntKind.u8 p6, AV.i IntKind.u8 p7, AV.i IntKind.u8 p8, AV.i IntKind.u8 p9, AV.i IntKind.u8 p10, AV.i IntKind.u8 p11, AV.i IntKind.u8 p12, AV.i IntKind.u8 p13, AV.i IntKind.u8 p14, AV.i IntKind.u8 p15] true, Blk.cells [AV.i IntKind.u8 x0, AV.i IntKind.u8 x1, AV.i IntKind.u8 x2, AV.i IntKind.u8 x3, AV.i IntKind.u8 x4, AV.i IntKind.u8 x5, AV.i IntKind.u8 x6, AV.i IntKind.u8 x7, AV.i IntKind.u8 x8, AV.i IntKind.u8 x9, AV.i IntKind.u8 x10, AV.i IntKind.u8 x11, AV.i IntKind.u8 x12, AV.i IntKind.u8 x13, AV.i IntKind.u8 x14, AV.i IntKind.u8 x15] true] } ∧ J (Prod.fst a))) (Wk (0 : Nat) { t := [.bad, .bad, .bad, .bad, .bad, .bad, AV.p (0 : Nat) (0 : Nat), AV.p (1 : Nat) (0 : Nat), AV.p (2 : Nat) (0 : Nat), AV.p (3 : Nat) (0 : Nat), .bad, .bad, .bad, AV.i IntKind.i64 (Prod.fst a), .bad, .bad, .bad, .bad, .bad, .bad, .bad, .bad, .bad, .bad, .bad, .bad, .bad, .bad, .bad, .bad, .bad, .bad, .bad, .bad, .bad, .bad, .bad, .bad, .bad, .bad, .bad, .bad, .bad, .bad, .bad, .bad, .bad, .bad, .bad, .bad, .bad, .bad, .bad, .bad, .bad, .bad, .bad, .bad, .bad, .bad, .bad, .bad, .bad, .bad, .bad, .bad, .bad, .bad, .bad, .bad, .bad, .bad, .bad, .bad, .bad, .bad, .bad, .bad, .bad, .bad, .bad, .bad, .bad, .bad, .bad, .bad, .bad, .bad, .bad, .bad, .bad, .bad, .bad, .bad, .bad, .bad, .bad, .bad, .bad, .bad, .bad, .bad, .bad], h := [Blk.cells [AV.i IntKind.u8 a0, AV.i IntKind.u8 a1, AV.i IntKind.u8 a2, AV.i IntKind.u8 a3] true, Blk.cells [AV.i IntKind.u8 b0, AV.i IntKind.u8 b1, AV.i IntKind.u8 b2, AV.i IntKind.u8 b3] true, Blk.cells [AV.i IntKind.u8 p0, AV.i IntKind.u8 p1, AV.i IntKind.u8 p2, AV.i IntKind.u8 p3, AV.i IntKind.u8 p4, AV.i IntKind.u8 p5, AV.i IntKind.u8 p6, AV.i IntKind.u8 p7, AV.i IntKind.u8 p8, AV.i IntKind.u8 p9, AV.i IntKind.u8 p10, AV.i IntKind.u8 p11, AV.i IntKind.u8 p12, AV.i IntKind.u8 p13, AV.i IntKind.u8 p14, AV.i IntKind.u8 p15] true, Blk.cells [AV.i IntKind.u8 x0, AV.i IntKind.u8 x1, AV.i IntKind.u8 x2, AV.i IntKind.u8 x3, AV.i IntKind.u8 x4, AV.i IntKind.u8 x5, AV.i IntKind.u8 x6, AV.i IntKind.u8 x7, AV.i IntKind.u8 x8, AV.i IntKind.u8 x9, AV.i IntKind.u8 x10, AV.i IntKind.u8 x11, AV.i IntKind.u8 x12, AV.i IntKind.u8 x13, AV.i IntKind.u8 x14, AV.i IntKind.u8 x15] true] } { t := [.bad, .bad, .bad, .bad, .bad, .bad, AV.p (0 : Nat) (0 : Nat), AV.p (1 : Nat) (0 : Nat), AV.p (2 : Nat) (0 : Nat), AV.p (3 : Nat) (0 : Nat), .bad, .bad, .bad, AV.i IntKind.i64 (Prod.fst a), .bad, .bad, .bad, .bad, .bad, .bad, .bad, .bad, .bad, .bad, .bad, .bad, .bad, .bad, .bad, .bad, .bad, .bad, .bad, .bad, .bad, .bad, .bad, .bad, .bad, .bad, .bad, .bad, .bad, .bad, .bad, .bad, .bad, .bad, .bad, .bad, .bad, .bad, .bad, .bad, .bad, .bad, .bad, .bad, .bad, .bad, .bad, .bad, .bad, .bad, .bad, .bad, .bad, .bad, .bad, .bad, .bad, .bad, .bad, .bad, .bad, .bad, .bad, .bad, .bad, .bad, .bad, .bad, .bad, .bad, .bad, .bad, .bad, .bad, .bad, .bad, .bad, .bad, .bad, .bad, .bad, .bad, .bad, .bad, .bad, .bad, .bad, .bad, .bad], h := [Blk.cells [AV.i IntKind.u8 a0, AV.i IntKind.u8 a1, AV.i IntKind.u8 a2, AV.i IntKind.u8 a3] true, Blk.cells [AV.i IntKind.u8 b0, AV.i IntKind.u8 b1, AV.i IntKind.u8 b2, AV.i IntKind.u8 b3] true, Blk.cells [AV.i IntKind.u8 p0, AV.i IntKind.u8 p1, AV.i IntKind.u8 p2, AV.i IntKind.u8 p3, AV.i IntKind.u8 p4, AV.i IntKind.u8 p5, AV.i IntKind.u8 p6, AV.i IntKind.u8 p7, AV.i IntKind.u8 p8, AV.i IntKind.u8 p9, AV.i IntKind.u8 p10, AV.i IntKind.u8 p11, AV.i IntKind.u8 p12, AV.i IntKind.u8 p13, AV.i IntKind.u8 p14, AV.i IntKind.u8 p15] true, Blk.cells [AV.i IntKind.u8 x0, AV.i IntKind.u8 x1, AV.i IntKind.u8 x2, AV.i IntKind.u8 x3, AV.i IntKind.u8 x4, AV.i IntKind.u8 x5, AV.i IntKind.u8 x6, AV.i IntKind.u8 x7, AV.i IntKind.u8 x8, AV.i IntKind.u8 x9, AV.i IntKind.u8 x10, AV.i IntKind.u8 x11, AV.i IntKind.u8 x12, AV.i IntKind.u8 x13, AV.i IntKind.u8 x14, AV.i IntKind.u8 x15] true] } ∧ J (Prod.fst a))) ∧ ∀ (a : Int), J a → Holds (okb [p0, p1, p2, p3, p4, p5, p6, p7, p8, p9, p10, p11, p12, p13, p14, p15] ∧ (0 : Int) ≤ (128 : Int) ∧ (128 : Int) ≤ (128 : Int)) ∧ ∀ (c0 c1 c2 c3 c4 c5 c6 c7 c8 c9 c10 c11 c12 c13 c14 c15 : Int), Holds (C6 [p0, p1, p2, p3, p4, p5, p6, p7, p8, p9, p10, p11, p12, p13, p14, p15] (128 : Int) = [c0, c1, c2, c3, c4, c5, c6, c7, c8, c9, c10, c11, c12, c13, c14, c15]) → Holds (okb [c0, c1, c2, c3, c4, c5, c6, c7, c8, c9, c10, c11, c12, c13, c14, c15] ∧ okb [x0, x1, x2, x3, x4, x5, x6, x7, x8, x9, x10, x11, x12, x13, x14, x15]) ∧ ∀ (b : Bool), Holds (H6 [c0, c1, c2, c3, c4, c5, c6, c7, c8, c9, c10, c11, c12, c13, c14, c15] (128 : Int) [x0, x1, x2, x3, x4, x5, x6, x7, x8, x9, x10, x11, x12, x13, x14, x15] = b) → br (b == (p0 == x0 && (p1 == x1 && (p2 == x2 && (p3 == x3 && (p4 == x4 && (p5 == x5 && (p6 == x6 && (p7 == x7 && (p8 == x8 && (p9 == x9 && (p10 == x10 && (p11 == x11 && (p12 == x12 && (p13 == x13 && (p14 == x14 && (p15 == x15 && true))))))))))))))))) (Holds (okb [a0, a1, a2, a3] ∧ (0 : Int) ≤ (32 : Int) ∧ (32 : Int) ≤ (32 : Int)) ∧ ∀ (c0 c1 c2 c3 : Int), Holds (C4 [a0, a1, a2, a3] (32 : Int) = [c0, c1, c2, c3]) → Holds (okb [c0, c1, c2, c3] ∧ okb [b0, b1, b2, b3]) ∧ ∀ (b : Bool), Holds (H4 [c0, c1, c2, c3] (32 : Int) [b0, b1, b2, b3] = b) → br (b == (a0 == b0 && (a1 == b1 && (a2 == b2 && (a3 == b3 && true))))) (Holds (okb [(0 : Int), (0 : Int), (0 : Int), (0 : Int), (0 : Int), (0 : Int), (0 : Int), (0 : Int), (0 : Int), (0 : Int), (0 : Int), (0 : Int), (0 : Int), (0 : Int), (0 : Int), (0 : Int)] ∧ okb [x0, x1, x2, x3, x4, x5, x6, x7, x8, x9, x10, x11, x12, x13, x14, x15]) ∧ ∀ (b : Bool), Holds (H6 [(0 : Int), (0 : Int), (0 : Int), (0 : Int), (0 : Int), (0 : Int), (0 : Int), (0 : Int), (0 : Int), (0 : Int), (0 : Int), (0 : Int), (0 : Int), (0 : Int), (0 : Int), (0 : Int)] (0 : Int) [x0, x1, x2, x3, x4, x5, x6, x7, x8, x9, x10, x11, x12, x13, x14, x15] = b) → br b (Holds (okb [(0 : Int), (0 : Int), (0 : Int), (0 : Int)] ∧ okb [b0, b1, b2, b3]) ∧ ∀ (b : Bool), Holds (H4 [(0 : Int), (0 : Int), (0 : Int), (0 : Int)] (0 : Int) [b0, b1, b2, b3] = b) → br b (Holds (okb [p0, p1, p2, p3, p4, p5, p6, p7, p8, p9, p10, p11, p12, p13, p14, p15] ∧ (0 : Int) ≤ a ∧ a ≤ (128 : Int)) ∧ ∀ (c0 c1 c2 c3 c4 c5 c6 c7 c8 c9 c10 c11 c12 c13 c14 c15 : Int), Holds (C6 [p0, p1, p2, p3, p4, p5, p6, p7, p8, p9, p10, p11, p12, p13, p14, p15] a = [c0, c1, c2, c3, c4, c5, c6, c7, c8, c9, c10, c11, c12, c13, c14, c15]) → Holds (okb [c0, c1, c2, c3, c4, c5, c6, c7, c8, c9, c10, c11, c12, c13, c14, c15] ∧ okb [p0, p1, p2, p3, p4, p5, p6, p7, p8, p9, p10, p11, p12, p13, p14, p15]) ∧ ∀ (b : Bool), Holds (H6 [c0, c1, c2, c3, c4, c5, c6, c7, c8, c9, c10, c11, c12, c13, c14, c15] a [p0, p1, p2, p3, p4, p5, p6, p7, p8, p9, p10, p11, p12, p13, p14, p15] = b) → R (AV.bo b) [Blk.cells [AV.i IntKind.u8 a0, AV.i IntKind.u8 a1, AV.i IntKind.u8 a2, AV.i IntKind.u8 a3] true, Blk.cells [AV.i IntKind.u8 b0, AV.i IntKind.u8 b1, AV.i IntKind.u8 b2, AV.i IntKind.u8 b3] true, Blk.cells [AV.i IntKind.u8 p0, AV.i IntKind.u8 p1, AV.i IntKind.u8 p2, AV.i IntKind.u8 p3, AV.i IntKind.u8 p4, AV.i IntKind.u8 p5, AV.i IntKind.u8 p6, AV.i IntKind.u8 p7, AV.i IntKind.u8 p8, AV.i IntKind.u8 p9, AV.i IntKind.u8 p10, AV.i IntKind.u8 p11, AV.i IntKind.u8 p12, AV.i IntKind.u8 p13, AV.i IntKind.u8 p14, AV.i IntKind.u8 p15] true, Blk.cells [AV.i IntKind.u8 x0, AV.i IntKind.u8 x1, AV.i IntKind.u8 x2, AV.i IntKind.u8 x3, AV.i IntKind.u8 x4, AV.i IntKind.u8 x5, AV.i IntKind.u8 x6, AV.i IntKind.u8 x7, AV.i IntKind.u8 x8, AV.i IntKind.u8 x9, AV.i IntKind.u8 x10, AV.i IntKind.u8 x11, AV.i IntKind.u8 x12, AV.i IntKind.u8 x13, AV.i IntKind.u8 x14, AV.i IntKind.u8 x15] true]) (R (AV.bo false) [Blk.cells [AV.i IntKind.u8 a0, AV.i IntKind.u8 a1, AV.i IntKind.u8 a2, AV.i IntKind.u8 a3] true, Blk.cells [AV.i IntKind.u8 b0, AV.i IntKind.u8 b1, AV.i IntKind.u8 b2, AV.i IntKind.u8 b3] true, Blk.cells [AV.i IntKind.u8 p0, AV.i IntKind.u8 p1, AV.i IntKind.u8 p2, AV.i IntKind.u8 p3, AV.i IntKind.u8 p4, AV.i IntKind.u8 p5, AV.i IntKind.u8 p6, AV.i IntKind.u8 p7, AV.i IntKind.u8 p8, AV.i IntKind.u8 p9, AV.i IntKind.u8 p10, AV.i IntKind.u8 p11, AV.i IntKind.u8 p12, AV.i IntKind.u8 p13, AV.i IntKind.u8 p14, AV.i IntKind.u8 p15] true, Blk.cells [AV.i IntKind.u8 x0, AV.i IntKind.u8 x1, AV.i IntKind.u8 x2, AV.i IntKind.u8 x3, AV.i IntKind.u8 x4, AV.i IntKind.u8 x5, AV.i IntKind.u8 x6, AV.i IntKind.u8 x7, AV.i IntKind.u8 x8, AV.i IntKind.u8 x9, AV.i IntKind.u8 x10, AV.i IntKind.u8 x11, AV.i IntKind.u8 x12, AV.i IntKind.u8 x13, AV.i IntKind.u8 x14, AV.i IntKind.u8 x15] true])) (R (AV.bo false) [Blk.cells [AV.i IntKind.u8 a0, AV.i IntKind.u8 a1, AV.i IntKind.u8 a2, AV.i IntKind.u8 a3] true, Blk.cells [AV.i IntKind.u8 b0, AV.i IntKind.u8 b1, AV.i IntKind.u8 b2, AV.i IntKind.u8 b3] true, Blk.cells [AV.i IntKind.u8 p0, AV.i IntKind.u8 p1, AV.i IntKind.u8 p2, AV.i IntKind.u8 p3, AV.i IntKind.u8 p4, AV.i IntKind.u8 p5, AV.i IntKind.u8 p6, AV.i IntKind.u8 p7, AV.i IntKind.u8 p8, AV.i IntKind.u8 p9, AV.i IntKind.u8 p10, AV.i IntKind.u8 p11, AV.i IntKind.u8 p12, AV.i IntKind.u8 p13, AV.i IntKind.u8 p14, AV.i IntKind.u8 p15] true, Blk.cells [AV.i IntKind.u8 x0, AV.i IntKind.u8 x1, AV.i IntKind.u8 x2, AV.i IntKind.u8 x3, AV.i IntKind.u8 x4, AV.i IntKind.u8 x5, AV.i IntKind.u8 x6, AV.i IntKind.u8 x7, AV.i IntKind.u8 x8, AV.i IntKind.u8 x9, AV.i IntKind.u8 x10, AV.i IntKind.u8 x11, AV.i IntKind.u8 x12, AV.i IntKind.u8 x13, AV.i IntKind.u8 x14, AV.i IntKind.u8 x15] true])) (R (AV.bo false) [Blk.cells [AV.i IntKind.u8 a0, AV.i IntKind.u8 a1, AV.i IntKind.u8 a2, AV.i IntKind.u8 a3] true, Blk.cells [AV.i IntKind.u8 b0, AV.i IntKind.u8 b1, AV.i IntKind.u8 b2, AV.i IntKind.u8 b3] true, Blk.cells [AV.i IntKind.u8 p0, AV.i IntKind.u8 p1, AV.i IntKind.u8 p2, AV.i IntKind.u8 p3, AV.i IntKind.u8 p4, AV.i IntKind.u8 p5, AV.i IntKind.u8 p6, AV.i IntKind.u8 p7, AV.i IntKind.u8 p8, AV.i IntKind.u8 p9, AV.i IntKind.u8 p10, AV.i IntKind.u8 p11, AV.i IntKind.u8 p12, AV.i IntKind.u8 p13, AV.i IntKind.u8 p14, AV.i IntKind.u8 p15] true, Blk.cells [AV.i IntKind.u8 x0, AV.i IntKind.u8 x1, AV.i IntKind.u8 x2, AV.i IntKind.u8 x3, AV.i IntKind.u8 x4, AV.i IntKind.u8 x5, AV.i IntKind.u8 x6, AV.i IntKind.u8 x7, AV.i IntKind.u8 x8, AV.i IntKind.u8 x9, AV.i IntKind.u8 x10, AV.i IntKind.u8 x11, AV.i IntKind.u8 x12, AV.i IntKind.u8 x13, AV.i IntKind.u8 x14, AV.i IntKind.u8 x15] true])) (R (AV.bo false) [Blk.cells [AV.i IntKind.u8 a0, AV.i IntKind.u8 a1, AV.i IntKind.u8 a2, AV.i IntKind.u8 a3] true, Blk.cells [AV.i IntKind.u8 b0, AV.i IntKind.u8 b1, AV.i IntKind.u8 b2, AV.i IntKind.u8 b3] true, Blk.cells [AV.i IntKind.u8 p0, AV.i IntKind.u8 p1, AV.i IntKind.u8 p2, AV.i IntKind.u8 p3, AV.i IntKind.u8 p4, AV.i IntKind.u8 p5, AV.i IntKind.u8 p6, AV.i IntKind.u8 p7, AV.i IntKind.u8 p8, AV.i IntKind.u8 p9, AV.i IntKind.u8 p10, AV.i IntKind.u8 p11, AV.i IntKind.u8 p12, AV.i IntKind.u8 p13, AV.i IntKind.u8 p14, AV.i IntKind.u8 p15] true, Blk.cells [AV.i IntKind.u8 x0, AV.i IntKind.u8 x1, AV.i IntKind.u8 x2, AV.i IntKind.u8 x3, AV.i IntKind.u8 x4, AV.i IntKind.u8 x5, AV.i IntKind.u8 x6, AV.i IntKind.u8 x7, AV.i IntKind.u8 x8, AV.i IntKind.u8 x9, AV.i IntKind.u8 x10, AV.i IntKind.u8 x11, AV.i IntKind.u8 x12, AV.i IntKind.u8 x13, AV.i IntKind.u8 x14, AV.i IntKind.u8 x15] true])) := by kernel_rfl
/-- What a prefix holds. -/
def Hn (mx : Int) (l : List Int) (n : Int) (a : List Int) : Bool := Rv mx l n && Hv l a n
theorem cutL_get {l : List Int} {n : Int} {i : Nat} (h : i < l.length) : (cutL l n).getD i 0 = l.getD i 0 / 2 ^ (8 - kk n i) * 2 ^ (8 - kk n i) := by
  rw [List.getD_eq_getElem?_getD, cutL, List.getElem?_map, List.getElem?_range h]
  rfl
theorem pow_pos (k : Nat) : (0 : Int) < 2 ^ k := Int.pow_pos (by decide)
theorem cut_ok {l : List Int} {n : Int} (h : okb l) : okb (cutL l n) := by
  intro i hi
  rw [cutL_len] at hi
  rw [cutL_get hi]
  have hb := h i hi
  have hp := pow_pos (8 - kk n i)
  have h1 := Int.mul_ediv_add_emod (l.getD i 0) (2 ^ (8 - kk n i))
  have h2 := Int.emod_nonneg (l.getD i 0) (Int.ne_of_gt hp)
  have h3 := Int.ediv_nonneg hb.1 (Int.le_of_lt hp)
  have h4 := Int.mul_nonneg h3 (Int.le_of_lt hp)
  rw [Int.mul_comm] at h1
  omega
theorem Rv_cut {mx : Int} {l : List Int} {n : Int} (h0 : 0 ≤ n) (h1 : n ≤ mx) : Rv mx (cutL l n) n = true := by
  have : Bv (cutL l n) n = true := by
    rw [Bv, List.all_eq_true]
    intro i hi
    have hi := List.mem_range.1 hi
    rw [cutL_len] at hi
    rw [cutL_get hi, Int.mul_emod_left]
    rfl
  rw [Rv, this, decide_eq_true (show n ≥ 0 from h0), decide_eq_true h1]
  rfl
theorem Hv_cut {l y : List Int} {n : Int} : Hv (cutL l n) y n = true ↔ ∀ i, i < l.length → l.getD i 0 / 2 ^ (8 - kk n i) = y.getD i 0 / 2 ^ (8 - kk n i) := by
  rw [Hv, List.all_eq_true, cutL_len]
  constructor
  · intro h i hi
    have := of_decide_eq_true (h i (List.mem_range.2 hi))
    rwa [cutL_get hi, Int.mul_ediv_cancel _ (Int.ne_of_gt (pow_pos _))] at this
  · intro h i hi
    have hi := List.mem_range.1 hi
    refine decide_eq_true ?_
    rw [cutL_get hi, Int.mul_ediv_cancel _ (Int.ne_of_gt (pow_pos _))]
    exact h i hi
theorem Hn_cut {mx : Int} {l y : List Int} {n : Int} (h0 : 0 ≤ n) (h1 : n ≤ mx) : Hn mx (cutL l n) n y = Hv (cutL l n) y n := by
  rw [Hn, Rv_cut h0 h1]; rfl
theorem Hv_mono {l y : List Int} {n m : Int} (h : m ≤ n) (hn : Hv (cutL l n) y n = true) : Hv (cutL l m) y m = true := by
  rw [Hv_cut] at *
  intro i hi
  have := hn i hi
  have hk : kk m i ≤ kk n i := by unfold kk; omega
  have h8 := kk_le n i
  have e : 8 - kk m i = (8 - kk n i) + (kk n i - kk m i) := by omega
  rw [e, Int.pow_add, ← Int.ediv_ediv_of_nonneg (Int.le_of_lt (pow_pos _)), ← Int.ediv_ediv_of_nonneg (Int.le_of_lt (pow_pos _)), this]
theorem Hv_self (l : List Int) (n : Int) : Hv (cutL l n) l n = true := Hv_cut.2 fun _ _ => rfl
theorem Hv_full {l y : List Int} {n : Int} (hn : n = 8 * l.length) : Hv (cutL l n) y n = true ↔ ∀ i, i < l.length → l.getD i 0 = y.getD i 0 := by
  rw [Hv_cut]
  have (i : Nat) (hi : i < l.length) : kk n i = 8 := by unfold kk; omega
  constructor
  · intro h i hi
    have := h i hi
    rw [‹∀ i, i < l.length → kk n i = 8› i hi] at this
    simpa using this
  · intro h i hi
    rw [h i hi]
theorem full16 {p0 p1 p2 p3 p4 p5 p6 p7 p8 p9 p10 p11 p12 p13 p14 p15 x0 x1 x2 x3 x4 x5 x6 x7 x8 x9 x10 x11 x12 x13 x14 x15 : Int} : Hv (cutL [p0, p1, p2, p3, p4, p5, p6, p7, p8, p9, p10, p11, p12, p13, p14, p15] 128) [x0, x1, x2, x3, x4, x5, x6, x7, x8, x9, x10, x11, x12, x13, x14, x15] 128 = (p0 == x0 && (p1 == x1 && (p2 == x2 && (p3 == x3 && (p4 == x4 && (p5 == x5 && (p6 == x6 && (p7 == x7 && (p8 == x8 && (p9 == x9 && (p10 == x10 && (p11 == x11 && (p12 == x12 && (p13 == x13 && (p14 == x14 && (p15 == x15 && true)))))))))))))))) := by
  refine Bool.eq_iff_iff.2 ((Hv_full rfl).trans ?_)
  simp only [Bool.and_eq_true, beq_iff_eq, and_true]
  constructor
  · intro h
    exact ⟨h 0 (show 0 < 16 from by decide), h 1 (show 1 < 16 from by decide), h 2 (show 2 < 16 from by decide), h 3 (show 3 < 16 from by decide), h 4 (show 4 < 16 from by decide), h 5 (show 5 < 16 from by decide), h 6 (show 6 < 16 from by decide), h 7 (show 7 < 16 from by decide), h 8 (show 8 < 16 from by decide), h 9 (show 9 < 16 from by decide), h 10 (show 10 < 16 from by decide), h 11 (show 11 < 16 from by decide), h 12 (show 12 < 16 from by decide), h 13 (show 13 < 16 from by decide), h 14 (show 14 < 16 from by decide), h 15 (show 15 < 16 from by decide)⟩
  · rintro ⟨h0, h1, h2, h3, h4, h5, h6, h7, h8, h9, h10, h11, h12, h13, h14, h15⟩ i hi
    match i, hi with
    | 0, _ => exact h0
    | 1, _ => exact h1
    | 2, _ => exact h2
    | 3, _ => exact h3
    | 4, _ => exact h4
    | 5, _ => exact h5
    | 6, _ => exact h6
    | 7, _ => exact h7
    | 8, _ => exact h8
    | 9, _ => exact h9
    | 10, _ => exact h10
    | 11, _ => exact h11
    | 12, _ => exact h12
    | 13, _ => exact h13
    | 14, _ => exact h14
    | 15, _ => exact h15
    | i + 16, h => exact absurd (show i + 16 < 16 from h) (by omega)
theorem full4 {a0 a1 a2 a3 b0 b1 b2 b3 : Int} : Hv (cutL [a0, a1, a2, a3] 32) [b0, b1, b2, b3] 32 = (a0 == b0 && (a1 == b1 && (a2 == b2 && (a3 == b3 && true)))) := by
  refine Bool.eq_iff_iff.2 ((Hv_full rfl).trans ?_)
  simp only [Bool.and_eq_true, beq_iff_eq, and_true]
  constructor
  · intro h
    exact ⟨h 0 (show 0 < 4 from by decide), h 1 (show 1 < 4 from by decide), h 2 (show 2 < 4 from by decide), h 3 (show 3 < 4 from by decide)⟩
  · rintro ⟨h0, h1, h2, h3⟩ i hi
    match i, hi with
    | 0, _ => exact h0
    | 1, _ => exact h1
    | 2, _ => exact h2
    | 3, _ => exact h3
    | i + 4, h => exact absurd (show i + 4 < 4 from h) (by omega)
theorem zero_hold {mx : Int} {k : Nat} {y : List Int} (hm : 0 ≤ mx) (hy : okb y) (hk : y.length = k) : Hn mx (List.replicate k 0) 0 y = true := by
  have g (i : Nat) : (List.replicate k (0 : Int)).getD i 0 = 0 := by
    rw [List.getD_eq_getElem?_getD, List.getElem?_replicate]
    split <;> rfl
  have kz (i : Nat) : kk 0 i = 0 := by unfold kk; omega
  have hb : Bv (List.replicate k 0) 0 = true := by
    rw [Bv, List.all_eq_true]
    intro i hi
    rw [g, Int.zero_emod]
    rfl
  have hh : Hv (List.replicate k 0) y 0 = true := by
    rw [Hv, List.all_eq_true]
    intro i hi
    have hi := List.mem_range.1 hi
    rw [List.length_replicate] at hi
    have := hy i (by omega)
    rw [g, kz]
    refine decide_eq_true ?_
    show (0 : Int) / 256 = y.getD i 0 / 256
    omega
  rw [Hn, Rv, hb, hh, decide_eq_true (show (0 : Int) ≥ 0 from Int.le_refl 0), decide_eq_true hm]
  rfl
theorem ok0 (k : Nat) : okb (List.replicate k 0) := by
  intro i hi
  have g : (List.replicate k (0 : Int)).getD i 0 = 0 := by
    rw [List.getD_eq_getElem?_getD, List.getElem?_replicate]
    split <;> rfl
  rw [g]
  exact ⟨by decide, by decide⟩
theorem w129 {n : Int} (h0 : 0 ≤ n) (h1 : n ≤ 255) : IntKind.wrap .i64 (Int.tmod n 129) = n % 129 := by
  rw [Int.tmod_eq_emod_of_nonneg h0, i64w (by omega) (by omega)]
set_option maxRecDepth 100000 in
theorem run5 {a0 a1 a2 a3 b0 b1 b2 b3 p0 p1 p2 p3 p4 p5 p6 p7 p8 p9 p10 p11 p12 p13 p14 p15 x0 x1 x2 x3 x4 x5 x6 x7 x8 x9 x10 x11 x12 x13 x14 x15 n m : Int} (ha : okb [a0, a1, a2, a3]) (hb : okb [b0, b1, b2, b3]) (hp : okb [p0, p1, p2, p3, p4, p5, p6, p7, p8, p9, p10, p11, p12, p13, p14, p15]) (hx : okb [x0, x1, x2, x3, x4, x5, x6, x7, x8, x9, x10, x11, x12, x13, x14, x15]) (hn : 0 ≤ n ∧ n ≤ 255) (hm : 0 ≤ m ∧ m ≤ 255) :
    Holds (wpFn P (TSh cutL cutL (Hn 128) (Hn 32)) W5 (head5 a0 a1 a2 a3 b0 b1 b2 b3 p0 p1 p2 p3 p4 p5 p6 p7 p8 p9 p10 p11 p12 p13 p14 p15 x0 x1 x2 x3 x4 x5 x6 x7 x8 x9 x10 x11 x12 x13 x14 x15) 0 Go.Proofs.Tryd.f5 [.ag [.i .u8 a0, .i .u8 a1, .i .u8 a2, .i .u8 a3], .ag [.i .u8 b0, .i .u8 b1, .i .u8 b2, .i .u8 b3], .ag [.i .u8 p0, .i .u8 p1, .i .u8 p2, .i .u8 p3, .i .u8 p4, .i .u8 p5, .i .u8 p6, .i .u8 p7, .i .u8 p8, .i .u8 p9, .i .u8 p10, .i .u8 p11, .i .u8 p12, .i .u8 p13, .i .u8 p14, .i .u8 p15], .ag [.i .u8 x0, .i .u8 x1, .i .u8 x2, .i .u8 x3, .i .u8 x4, .i .u8 x5, .i .u8 x6, .i .u8 x7, .i .u8 x8, .i .u8 x9, .i .u8 x10, .i .u8 x11, .i .u8 x12, .i .u8 x13, .i .u8 x14, .i .u8 x15], .i .u8 n, .i .u8 m] [] fun v _ => v = .bo true) := by
  refine ⟨?_⟩
  rw [vc5, w129 hn.1 hn.2, w129 hm.1 hm.2]
  refine ⟨fun q => 0 ≤ q.2 ∧ q.2 ≤ q.1 ∧ q.1 ≤ 128, br_intro (fun h => ⟨Wk.refl _ _, ?_⟩) (fun h => ⟨Wk.refl _ _, ?_⟩), ?_⟩
  · have := of_decide_eq_true h
    exact ⟨by show 0 ≤ n % 129; omega, by show n % 129 ≤ m % 129; omega, by show m % 129 ≤ 128; omega⟩
  · have := of_decide_eq_false h
    exact ⟨by show 0 ≤ m % 129; omega, by show m % 129 ≤ n % 129; omega, by show n % 129 ≤ 128; omega⟩
  rintro ⟨L, S⟩ ⟨h0, h1, h2⟩
  replace h0 : 0 ≤ S := h0
  replace h1 : S ≤ L := h1
  replace h2 : L ≤ 128 := h2
  show Holds (okb [p0, p1, p2, p3, p4, p5, p6, p7, p8, p9, p10, p11, p12, p13, p14, p15] ∧ 0 ≤ L ∧ L ≤ (128 : Int)) ∧ _
  refine ⟨⟨hp, by omega, h2⟩, fun c0 c1 c2 c3 c4 c5 c6 c7 c8 c9 c10 c11 c12 c13 c14 c15 hc => ⟨⟨hc.out ▸ cut_ok hp, hx⟩, fun b1 hb1 => ?_⟩⟩
  have e1 := hb1.out
  rw [← hc.out, Hn_cut (by omega) h2] at e1
  clear hc hb1
  refine ⟨⟨hp, h0, by show S ≤ 128; omega⟩, fun c0 c1 c2 c3 c4 c5 c6 c7 c8 c9 c10 c11 c12 c13 c14 c15 hc => ⟨⟨hc.out ▸ cut_ok hp, hx⟩, fun b2 hb2 => ?_⟩⟩
  have e2 := hb2.out
  rw [← hc.out, Hn_cut h0 (by show S ≤ 128; omega)] at e2
  clear hc hb2
  have t33 : Int.tmod L 33 = L % 33 := Int.tmod_eq_emod_of_nonneg (by omega)
  show Holds (okb [a0, a1, a2, a3] ∧ 0 ≤ Int.tmod L 33 ∧ Int.tmod L 33 ≤ (32 : Int)) ∧ _
  refine ⟨⟨ha, by omega, by omega⟩, fun c0 c1 c2 c3 hc => ⟨⟨hc.out ▸ cut_ok ha, hb⟩, fun b3 hb3 => ?_⟩⟩
  have e3 := hb3.out
  rw [← hc.out, Hn_cut (by show 0 ≤ Int.tmod L 33; omega) (by show Int.tmod L 33 ≤ 32; omega)] at e3
  clear hc hb3
  have tm : (0 ≤ if Int.tmod L 33 < S then Int.tmod L 33 else S) ∧ (if Int.tmod L 33 < S then Int.tmod L 33 else S) ≤ 32 ∧ (if Int.tmod L 33 < S then Int.tmod L 33 else S) ≤ Int.tmod L 33 := by
    split <;> omega
  refine ⟨⟨ha, tm.1, tm.2.1⟩, fun c0 c1 c2 c3 hc => ⟨⟨hc.out ▸ cut_ok ha, hb⟩, fun b4 hb4 => ?_⟩⟩
  have e4 := hb4.out
  rw [← hc.out, Hn_cut tm.1 tm.2.1] at e4
  clear hc hb4
  have i1 : b1 = true → b2 = true := by
    rw [← e1, ← e2]
    exact Hv_mono h1
  have i2 : b3 = true → b4 = true := by
    rw [← e3, ← e4]
    exact Hv_mono tm.2.2
  clear e1 e2 e3 e4
  refine ⟨fun a => 0 ≤ a ∧ a ≤ 128, ?_, ?_⟩
  · have fin : 0 ≤ L ∧ L ≤ 128 := ⟨by omega, h2⟩
    cases b1 <;> cases b2 <;> cases b3 <;> cases b4 <;> first | exact ⟨Wk.refl _ _, fin⟩ | (exact absurd (i1 rfl) (by decide)) | (exact absurd (i2 rfl) (by decide))
  rintro a ⟨a0', a1'⟩
  refine ⟨⟨hp, by decide, by decide⟩, fun c0 c1 c2 c3 c4 c5 c6 c7 c8 c9 c10 c11 c12 c13 c14 c15 hc => ⟨⟨hc.out ▸ cut_ok hp, hx⟩, fun b1 hb1 => ?_⟩⟩
  have e1 := hb1.out
  rw [← hc.out, Hn_cut (by decide) (by decide), full16] at e1
  clear hc hb1
  rw [e1, beq_self_eq_true]
  refine ⟨⟨ha, by decide, by decide⟩, fun c0 c1 c2 c3 hc => ⟨⟨hc.out ▸ cut_ok ha, hb⟩, fun b2 hb2 => ?_⟩⟩
  have e2 := hb2.out
  rw [← hc.out, Hn_cut (by decide) (by decide), full4] at e2
  clear hc hb2
  rw [e2, beq_self_eq_true]
  refine ⟨⟨ok0 16, hx⟩, fun b3 hb3 => ?_⟩
  have e3 := hb3.out
  rw [show [0, 0, 0, 0, 0, 0, 0, 0, 0, 0, 0, 0, 0, 0, 0, 0] = List.replicate 16 (0 : Int) from rfl, zero_hold (k := 16) (by decide) hx rfl] at e3
  subst e3
  refine ⟨⟨ok0 4, hb⟩, fun b4 hb4 => ?_⟩
  have e4 := hb4.out
  rw [show [0, 0, 0, 0] = List.replicate 4 (0 : Int) from rfl, zero_hold (k := 4) (by decide) hb rfl] at e4
  subst e4
  refine ⟨⟨hp, a0', a1'⟩, fun c0 c1 c2 c3 c4 c5 c6 c7 c8 c9 c10 c11 c12 c13 c14 c15 hc => ⟨⟨hc.out ▸ cut_ok hp, hp⟩, fun b5 hb5 => ?_⟩⟩
  have e5 := hb5.out
  rw [← hc.out, Hn_cut a0' a1', Hv_self] at e5
  rw [← e5]
end Go.Proofs.YtohaalilplngnaaDoor.ClassRun
/- The shorter prefixes' contracts. -/
set_option linter.unusedVariables false
set_option linter.unusedSimpArgs false
open Go Go.Proofs.YtohaalilplngnaaDoor.Eng Go.RowKit
namespace Go.Proofs.YtohaalilplngnaaDoor.ClassRun
def mkCut (q : List Int × Int) : List AV := [.ag (q.1.map (AV.i .u8)), .i .i64 q.2]
def cutA (q : List Int × Int) : AV := .ag ((cutL q.1 q.2).map (AV.i .u8) ++ [.i .i64 q.2])
theorem mkCut_inj (x y : List Int × Int) (h : mkCut x = mkCut y) : x = y := by
  obtain ⟨a, n⟩ := x; obtain ⟨b, m⟩ := y
  simp only [mkCut, List.cons.injEq, AV.ag.injEq, AV.i.injEq, true_and, and_true] at h
  rw [map_u8_inj h.1, h.2]
theorem mkCut_u (q : List Int × Int) : AV.unders 0 (mkCut q) = true := by
  show AV.unders 0 [.ag (q.1.map (AV.i .u8)), .i .i64 q.2] = true
  simp only [AV.unders, AV.under, Bool.and_true]
  exact unders_map 0 _ (fun _ => rfl) _
theorem cutA_u (q : List Int × Int) : (cutA q).under 0 = true := by
  show AV.under 0 (.ag ((cutL q.1 q.2).map (AV.i .u8) ++ [.i .i64 q.2])) = true
  simp only [AV.unders, AV.under, unders_append, Bool.and_true]
  exact unders_map 0 _ (fun _ => rfl) _
theorem tcut16_f : FollowsF (tcut16 cutL) (Cof (Splain mkCut (fun q => okb q.1 ∧ q.1.length = 16 ∧ 0 ≤ q.2 ∧ q.2 ≤ 128) cutA)) := by
  refine follows_of (Splain.det mkCut_inj) fun args h K hk => ?_
  unfold tcut16 at hk
  split at hk
  · rename_i p0 p1 p2 p3 p4 p5 p6 p7 p8 p9 p10 p11 p12 p13 p14 p15 n
    obtain ⟨⟨k1, k2, k3⟩, hk⟩ := hk
    have hl := cutL_len [p0, p1, p2, p3, p4, p5, p6, p7, p8, p9, p10, p11, p12, p13, p14, p15] n
    match e : cutL [p0, p1, p2, p3, p4, p5, p6, p7, p8, p9, p10, p11, p12, p13, p14, p15] n, hl with
    | [c0, c1, c2, c3, c4, c5, c6, c7, c8, c9, c10, c11, c12, c13, c14, c15], _ =>
      refine ⟨_, _, ⟨rfl, ([p0, p1, p2, p3, p4, p5, p6, p7, p8, p9, p10, p11, p12, p13, p14, p15], n), rfl, ⟨k1, rfl, k2, k3⟩, rfl⟩, ?_⟩
      have := hk c0 c1 c2 c3 c4 c5 c6 c7 c8 c9 c10 c11 c12 c13 c14 c15 ⟨e⟩
      rw [cutA, e]
      exact this
  · exact hk.elim
theorem tnetV16_f {B : List Int → Int → List Int → Bool} : FollowsF (tnetV16 B) (Cof (Splain mkNetA (fun q => okb q.1 ∧ q.1.length = 16 ∧ okb q.2.2 ∧ q.2.2.length = 16) fun q => .bo (B q.1 q.2.1 q.2.2))) := by
  refine follows_of (Splain.det mkNetA_inj) fun args h K hk => ?_
  unfold tnetV16 at hk
  split at hk
  · rename_i p0 p1 p2 p3 p4 p5 p6 p7 p8 p9 p10 p11 p12 p13 p14 p15 n x0 x1 x2 x3 x4 x5 x6 x7 x8 x9 x10 x11 x12 x13 x14 x15
    obtain ⟨⟨k1, k2⟩, hk⟩ := hk
    exact ⟨_, _, ⟨rfl, ([p0, p1, p2, p3, p4, p5, p6, p7, p8, p9, p10, p11, p12, p13, p14, p15], n, [x0, x1, x2, x3, x4, x5, x6, x7, x8, x9, x10, x11, x12, x13, x14, x15]), rfl, ⟨k1, rfl, k2, rfl⟩, rfl⟩, hk _ ⟨rfl⟩⟩
  · exact hk.elim
theorem fn21 : fnOk1 P noW 21 Go.Proofs.Tryd.f21 := ⟨Go.Proofs.Tryd.func21, by kernel_rfl, by kernel_rfl, by kernel_rfl⟩
theorem cells16 {z : List Int} {n : Int} (h : z.length = 16) : AV.ag (z.map (AV.i .u8) ++ [.i .i64 n]) = .ag [.i .u8 (z.getD 0 0), .i .u8 (z.getD 1 0), .i .u8 (z.getD 2 0), .i .u8 (z.getD 3 0), .i .u8 (z.getD 4 0), .i .u8 (z.getD 5 0), .i .u8 (z.getD 6 0), .i .u8 (z.getD 7 0), .i .u8 (z.getD 8 0), .i .u8 (z.getD 9 0), .i .u8 (z.getD 10 0), .i .u8 (z.getD 11 0), .i .u8 (z.getD 12 0), .i .u8 (z.getD 13 0), .i .u8 (z.getD 14 0), .i .u8 (z.getD 15 0), .i .i64 n] := by
  match z, h with
  | [c0, c1, c2, c3, c4, c5, c6, c7, c8, c9, c10, c11, c12, c13, c14, c15], _ => rfl
theorem h21 (q : List Int × Int) (hq : okb q.1 ∧ q.1.length = 16 ∧ 0 ≤ q.2 ∧ q.2 ≤ 128) : Holds (wpFn P tnil noW (head21 q.2) 0 Go.Proofs.Tryd.f21 (mkCut q) [] fun v _ => v = cutA q) := by
  obtain ⟨l, n⟩ := q
  obtain ⟨hk, hl, h0, h1⟩ := hq
  match l, hl with
  | [p0, p1, p2, p3, p4, p5, p6, p7, p8, p9, p10, p11, p12, p13, p14, p15], _ =>
    show Holds (wpFn P tnil noW (head21 n) 0 Go.Proofs.Tryd.f21 (mkCut ([p0, p1, p2, p3, p4, p5, p6, p7, p8, p9, p10, p11, p12, p13, p14, p15], n)) [] fun v _ => v = .ag ((cutL [p0, p1, p2, p3, p4, p5, p6, p7, p8, p9, p10, p11, p12, p13, p14, p15] n).map (AV.i .u8) ++ [AV.i .i64 n]))
    rw [cells16 (cutL_len [p0, p1, p2, p3, p4, p5, p6, p7, p8, p9, p10, p11, p12, p13, p14, p15] n)]
    exact run21 hk h0 h1
set_option maxRecDepth 100000 in
theorem cut21_s : SoundF P 21 (Cof (Splain mkCut (fun q => okb q.1 ∧ q.1.length = 16 ∧ 0 ≤ q.2 ∧ q.2 ≤ 128) cutA)) :=
  SoundF.plain (follows_nil _) (noEnv_sound _) mo fn21 mkCut_u cutA_u fun q hq => ⟨head21 q.2, 0, (h21 q hq).out⟩
theorem tcut4_f : FollowsF (tcut4 cutL) (Cof (Splain mkCut (fun q => okb q.1 ∧ q.1.length = 4 ∧ 0 ≤ q.2 ∧ q.2 ≤ 32) cutA)) := by
  refine follows_of (Splain.det mkCut_inj) fun args h K hk => ?_
  unfold tcut4 at hk
  split at hk
  · rename_i p0 p1 p2 p3 n
    obtain ⟨⟨k1, k2, k3⟩, hk⟩ := hk
    have hl := cutL_len [p0, p1, p2, p3] n
    match e : cutL [p0, p1, p2, p3] n, hl with
    | [c0, c1, c2, c3], _ =>
      refine ⟨_, _, ⟨rfl, ([p0, p1, p2, p3], n), rfl, ⟨k1, rfl, k2, k3⟩, rfl⟩, ?_⟩
      have := hk c0 c1 c2 c3 ⟨e⟩
      rw [cutA, e]
      exact this
  · exact hk.elim
theorem tnetV4_f {B : List Int → Int → List Int → Bool} : FollowsF (tnetV4 B) (Cof (Splain mkNetA (fun q => okb q.1 ∧ q.1.length = 4 ∧ okb q.2.2 ∧ q.2.2.length = 4) fun q => .bo (B q.1 q.2.1 q.2.2))) := by
  refine follows_of (Splain.det mkNetA_inj) fun args h K hk => ?_
  unfold tnetV4 at hk
  split at hk
  · rename_i p0 p1 p2 p3 n x0 x1 x2 x3
    obtain ⟨⟨k1, k2⟩, hk⟩ := hk
    exact ⟨_, _, ⟨rfl, ([p0, p1, p2, p3], n, [x0, x1, x2, x3]), rfl, ⟨k1, rfl, k2, rfl⟩, rfl⟩, hk _ ⟨rfl⟩⟩
  · exact hk.elim
theorem fn23 : fnOk1 P noW 23 Go.Proofs.Tryd.f23 := ⟨Go.Proofs.Tryd.func23, by kernel_rfl, by kernel_rfl, by kernel_rfl⟩
theorem cells4 {z : List Int} {n : Int} (h : z.length = 4) : AV.ag (z.map (AV.i .u8) ++ [.i .i64 n]) = .ag [.i .u8 (z.getD 0 0), .i .u8 (z.getD 1 0), .i .u8 (z.getD 2 0), .i .u8 (z.getD 3 0), .i .i64 n] := by
  match z, h with
  | [c0, c1, c2, c3], _ => rfl
theorem h23 (q : List Int × Int) (hq : okb q.1 ∧ q.1.length = 4 ∧ 0 ≤ q.2 ∧ q.2 ≤ 32) : Holds (wpFn P tnil noW (head23 q.2) 0 Go.Proofs.Tryd.f23 (mkCut q) [] fun v _ => v = cutA q) := by
  obtain ⟨l, n⟩ := q
  obtain ⟨hk, hl, h0, h1⟩ := hq
  match l, hl with
  | [p0, p1, p2, p3], _ =>
    show Holds (wpFn P tnil noW (head23 n) 0 Go.Proofs.Tryd.f23 (mkCut ([p0, p1, p2, p3], n)) [] fun v _ => v = .ag ((cutL [p0, p1, p2, p3] n).map (AV.i .u8) ++ [AV.i .i64 n]))
    rw [cells4 (cutL_len [p0, p1, p2, p3] n)]
    exact run23 hk h0 h1
set_option maxRecDepth 100000 in
theorem cut23_s : SoundF P 23 (Cof (Splain mkCut (fun q => okb q.1 ∧ q.1.length = 4 ∧ 0 ≤ q.2 ∧ q.2 ≤ 32) cutA)) :=
  SoundF.plain (follows_nil _) (noEnv_sound _) mo fn23 mkCut_u cutA_u fun q hq => ⟨head23 q.2, 0, (h23 q hq).out⟩
theorem fn5 : fnOk1 P W5 5 Go.Proofs.Tryd.f5 := ⟨Go.Proofs.Tryd.func5, by kernel_rfl, by kernel_rfl, by kernel_rfl⟩
abbrev CH20 : List AV → Hp → AV → Hp → Prop := Splain mkNetA (fun q => okb q.1 ∧ q.1.length = 16 ∧ okb q.2.2 ∧ q.2.2.length = 16) fun q => .bo (Hn 128 q.1 q.2.1 q.2.2)
abbrev CH22 : List AV → Hp → AV → Hp → Prop := Splain mkNetA (fun q => okb q.1 ∧ q.1.length = 4 ∧ okb q.2.2 ∧ q.2.2.length = 4) fun q => .bo (Hn 32 q.1 q.2.1 q.2.2)
theorem hold20_s : SoundF P 20 (Cof CH20) := holds20_s
theorem hold22_s : SoundF P 22 (Cof CH22) := holds22_s
noncomputable abbrev ΓSh : Env := with1 12 (Cconst (.bo true)) (with1 20 (Cof CH20) (with1 22 (Cof CH22) (with1 21 (Cof (Splain mkCut (fun q => okb q.1 ∧ q.1.length = 16 ∧ 0 ≤ q.2 ∧ q.2 ≤ 128) cutA)) (with1 23 (Cof (Splain mkCut (fun q => okb q.1 ∧ q.1.length = 4 ∧ 0 ≤ q.2 ∧ q.2 ≤ 32) cutA)) noEnv))))
theorem ΓSh_s : Sound P ΓSh := with1_sound (fnOkB_ok (by kernel_rfl)) awake_s (with1_sound fn20.ok hold20_s (with1_sound fn22.ok hold22_s (with1_sound fn21.ok cut21_s (with1_sound fn23.ok cut23_s (noEnv_sound _)))))
theorem ΓSh_f : Follows (TSh cutL cutL (Hn 128) (Hn 32)) ΓSh := follows_cons (follows_const _) (follows_cons tnetV16_f (follows_cons tnetV4_f (follows_cons tcut16_f (follows_cons tcut4_f (follows_nil _)))))
end Go.Proofs.YtohaalilplngnaaDoor.ClassRun
/- The document's Holds. -/
set_option linter.unusedVariables false
set_option linter.unusedSimpArgs false
open Go Go.Proofs.YtohaalilplngnaaDoor.Eng Go.RowKit
namespace Go.Proofs.YtohaalilplngnaaDoor.ClassRun
def tholdr (B : List Int → List Int → Int → Bool) (args : List AV) (h : Hp) (K : AV → Hp → Prop) : Prop := match args with
  | [.sl ia oa la 1 ca, .sl ib ob lb 1 cb, .i .i64 n] => match h.getD ia .dead, h.getD ib .dead with
    | .cells c wr, .cells d wr' => optQ (numsOf ((c.drop oa).take la)) fun x => optQ (numsOf ((d.drop ob).take lb)) fun y => Holds (okb x ∧ okb y ∧ x.length = la ∧ y.length = la ∧ lb = la ∧ la ≤ 16 ∧ ia ≠ ib) ∧ K (.bo (B x y n)) h
    | _, _ => False
  | _ => False
def head55 (oa ob len lenb : Nat) (ca cb : Option Nat) (n : Int) (c d : List AV) : Nat → Option Head := fun r => match r with
  | 4 => some (Head.one (Get.int 7) fun q => ⟨[.sl 0 oa len 1 ca, .sl 1 ob lenb 1 cb, .i .i64 n, .bad, .bad, .bad, .bad, .i .i64 q] ++ bads 38, [.cells c false, .cells d false]⟩)
  | _ => none
noncomputable abbrev T55 : TEnv := tcons 69 (tinl P tnil noW Go.Proofs.Tryd.f69) tnil
theorem vc55 (oa ob len lenb : Nat) (ca cb : Option Nat) (n : Int) (c d : List AV) (R : AV → Hp → Prop) : (wpFn P T55 noW (head55 oa ob len lenb ca cb n c d) 2 Go.Proofs.Tryd.f55 [.sl 0 oa len 1 ca, .sl 1 ob lenb 1 cb, .i .i64 n] [.cells c false, .cells d false] R) = (br (decide (n < (0 : Int))) (R (AV.bo false) [Blk.cells c false, Blk.cells d false]) (br (decide (n > IntKind.wrap IntKind.i64 ((8 : Int) * (↑len : Int)))) (R (AV.bo false) [Blk.cells c false, Blk.cells d false]) (Wk (2 : Nat) { t := [AV.sl (0 : Nat) oa len (1 : Nat) ca, AV.sl (1 : Nat) ob lenb (1 : Nat) cb, AV.i IntKind.i64 n, .bad, .bad, .bad, .bad, AV.i IntKind.i64 (0 : Int), .bad, .bad, .bad, .bad, .bad, .bad, .bad, .bad, .bad, .bad, .bad, .bad, .bad, .bad, .bad, .bad, .bad, .bad, .bad, .bad, .bad, .bad, .bad, .bad, .bad, .bad, .bad, .bad, .bad, .bad, .bad, .bad, .bad, .bad, .bad, .bad, .bad, .bad], h := [Blk.cells c false, Blk.cells d false] } { t := [AV.sl (0 : Nat) oa len (1 : Nat) ca, AV.sl (1 : Nat) ob lenb (1 : Nat) cb, AV.i IntKind.i64 n, .bad, .bad, .bad, .bad, AV.i IntKind.i64 (0 : Int), .bad, .bad, .bad, .bad, .bad, .bad, .bad, .bad, .bad, .bad, .bad, .bad, .bad, .bad, .bad, .bad, .bad, .bad, .bad, .bad, .bad, .bad, .bad, .bad, .bad, .bad, .bad, .bad, .bad, .bad, .bad, .bad, .bad, .bad, .bad, .bad, .bad, .bad], h := [Blk.cells c false, Blk.cells d false] } ∧ ∃ (I : Nat → Int → Prop), ∃ (n_1 : Nat), I n_1 (0 : Int) ∧ ∀ (a : Int) (n_2 : Nat), I n_2 a → br (decide (a < IntKind.wrap IntKind.i64 ((8 : Int) * (↑len : Int)))) (br (decide (a ≥ n)) (Holds ((0 : Int) ≤ IntKind.wrap IntKind.i64 (Int.tdiv a (8 : Int)) ∧ IntKind.wrap IntKind.i64 (Int.tdiv a (8 : Int)) < (↑len : Int)) ∧ ∃ (n_3 : Int), Holds (c[oa + Int.toNat (IntKind.wrap IntKind.i64 (Int.tdiv a (8 : Int))) * (1 : Nat)]? = some (AV.i IntKind.u8 n_3)) ∧ Holds ((0 : Int) ≤ IntKind.wrap IntKind.u64 (IntKind.wrap IntKind.i64 ((7 : Int) - Int.tmod a (8 : Int)))) ∧ br (Int.tmod (Int.fdiv n_3 ((2 : Int) ^ min (Int.toNat (IntKind.wrap IntKind.u64 (IntKind.wrap IntKind.i64 ((7 : Int) - Int.tmod a (8 : Int))))) (IntKind.bits IntKind.u8))) (2 : Int) == (1 : Int)) (R (AV.bo false) [Blk.cells c false, Blk.cells d false]) (br (decide (a < n)) (Holds ((0 : Int) ≤ IntKind.wrap IntKind.i64 (Int.tdiv a (8 : Int)) ∧ IntKind.wrap IntKind.i64 (Int.tdiv a (8 : Int)) < (↑len : Int)) ∧ ∃ (n_4 : Int), Holds (c[oa + Int.toNat (IntKind.wrap IntKind.i64 (Int.tdiv a (8 : Int))) * (1 : Nat)]? = some (AV.i IntKind.u8 n_4)) ∧ Holds ((0 : Int) ≤ IntKind.wrap IntKind.u64 (IntKind.wrap IntKind.i64 ((7 : Int) - Int.tmod a (8 : Int)))) ∧ Holds ((0 : Int) ≤ IntKind.wrap IntKind.i64 (Int.tdiv a (8 : Int)) ∧ IntKind.wrap IntKind.i64 (Int.tdiv a (8 : Int)) < (↑lenb : Int)) ∧ ∃ (n_5 : Int), Holds (d[ob + Int.toNat (IntKind.wrap IntKind.i64 (Int.tdiv a (8 : Int))) * (1 : Nat)]? = some (AV.i IntKind.u8 n_5)) ∧ Holds ((0 : Int) ≤ IntKind.wrap IntKind.u64 (IntKind.wrap IntKind.i64 ((7 : Int) - Int.tmod a (8 : Int)))) ∧ br (!(Int.tmod (Int.fdiv n_4 ((2 : Int) ^ min (Int.toNat (IntKind.wrap IntKind.u64 (IntKind.wrap IntKind.i64 ((7 : Int) - Int.tmod a (8 : Int))))) (IntKind.bits IntKind.u8))) (2 : Int) == (1 : Int)) == (Int.tmod (Int.fdiv n_5 ((2 : Int) ^ min (Int.toNat (IntKind.wrap IntKind.u64 (IntKind.wrap IntKind.i64 ((7 : Int) - Int.tmod a (8 : Int))))) (IntKind.bits IntKind.u8))) (2 : Int) == (1 : Int))) (R (AV.bo false) [Blk.cells c false, Blk.cells d false]) (Wk (2 : Nat) { t := [AV.sl (0 : Nat) oa len (1 : Nat) ca, AV.sl (1 : Nat) ob lenb (1 : Nat) cb, AV.i IntKind.i64 n, .bad, .bad, .bad, .bad, AV.i IntKind.i64 (IntKind.wrap IntKind.i64 (a + (1 : Int))), .bad, .bad, .bad, .bad, .bad, .bad, .bad, .bad, .bad, .bad, .bad, .bad, .bad, .bad, .bad, .bad, .bad, .bad, .bad, .bad, .bad, .bad, .bad, .bad, .bad, .bad, .bad, .bad, .bad, .bad, .bad, .bad, .bad, .bad, .bad, .bad, .bad, .bad], h := [Blk.cells c false, Blk.cells d false] } { t := [AV.sl (0 : Nat) oa len (1 : Nat) ca, AV.sl (1 : Nat) ob lenb (1 : Nat) cb, AV.i IntKind.i64 n, .bad, .bad, .bad, .bad, AV.i IntKind.i64 (IntKind.wrap IntKind.i64 (a + (1 : Int))), .bad, .bad, .bad, .bad, .bad, .bad, .bad, .bad, .bad, .bad, .bad, .bad, .bad, .bad, .bad, .bad, .bad, .bad, .bad, .bad, .bad, .bad, .bad, .bad, .bad, .bad, .bad, .bad, .bad, .bad, .bad, .bad, .bad, .bad, .bad, .bad, .bad, .bad], h := [Blk.cells c false, Blk.cells d false] } ∧ ∃ (m : Nat), Holds (m < n_2) ∧ I m (IntKind.wrap IntKind.i64 (a + (1 : Int))))) (Wk (2 : Nat) { t := [AV.sl (0 : Nat) oa len (1 : Nat) ca, AV.sl (1 : Nat) ob lenb (1 : Nat) cb, AV.i IntKind.i64 n, .bad, .bad, .bad, .bad, AV.i IntKind.i64 (IntKind.wrap IntKind.i64 (a + (1 : Int))), .bad, .bad, .bad, .bad, .bad, .bad, .bad, .bad, .bad, .bad, .bad, .bad, .bad, .bad, .bad, .bad, .bad, .bad, .bad, .bad, .bad, .bad, .bad, .bad, .bad, .bad, .bad, .bad, .bad, .bad, .bad, .bad, .bad, .bad, .bad, .bad, .bad, .bad], h := [Blk.cells c false, Blk.cells d false] } { t := [AV.sl (0 : Nat) oa len (1 : Nat) ca, AV.sl (1 : Nat) ob lenb (1 : Nat) cb, AV.i IntKind.i64 n, .bad, .bad, .bad, .bad, AV.i IntKind.i64 (IntKind.wrap IntKind.i64 (a + (1 : Int))), .bad, .bad, .bad, .bad, .bad, .bad, .bad, .bad, .bad, .bad, .bad, .bad, .bad, .bad, .bad, .bad, .bad, .bad, .bad, .bad, .bad, .bad, .bad, .bad, .bad, .bad, .bad, .bad, .bad, .bad, .bad, .bad, .bad, .bad, .bad, .bad, .bad, .bad], h := [Blk.cells c false, Blk.cells d false] } ∧ ∃ (m : Nat), Holds (m < n_2) ∧ I m (IntKind.wrap IntKind.i64 (a + (1 : Int)))))) (br (decide (a < n)) (Holds ((0 : Int) ≤ IntKind.wrap IntKind.i64 (Int.tdiv a (8 : Int)) ∧ IntKind.wrap IntKind.i64 (Int.tdiv a (8 : Int)) < (↑len : Int)) ∧ ∃ (n_3 : Int), Holds (c[oa + Int.toNat (IntKind.wrap IntKind.i64 (Int.tdiv a (8 : Int))) * (1 : Nat)]? = some (AV.i IntKind.u8 n_3)) ∧ Holds ((0 : Int) ≤ IntKind.wrap IntKind.u64 (IntKind.wrap IntKind.i64 ((7 : Int) - Int.tmod a (8 : Int)))) ∧ Holds ((0 : Int) ≤ IntKind.wrap IntKind.i64 (Int.tdiv a (8 : Int)) ∧ IntKind.wrap IntKind.i64 (Int.tdiv a (8 : Int)) < (↑lenb : Int)) ∧ ∃ (n_4 : Int), Holds (d[ob + Int.toNat (IntKind.wrap IntKind.i64 (Int.tdiv a (8 : Int))) * (1 : Nat)]? = some (AV.i IntKind.u8 n_4)) ∧ Holds ((0 : Int) ≤ IntKind.wrap IntKind.u64 (IntKind.wrap IntKind.i64 ((7 : Int) - Int.tmod a (8 : Int)))) ∧ br (!(Int.tmod (Int.fdiv n_3 ((2 : Int) ^ min (Int.toNat (IntKind.wrap IntKind.u64 (IntKind.wrap IntKind.i64 ((7 : Int) - Int.tmod a (8 : Int))))) (IntKind.bits IntKind.u8))) (2 : Int) == (1 : Int)) == (Int.tmod (Int.fdiv n_4 ((2 : Int) ^ min (Int.toNat (IntKind.wrap IntKind.u64 (IntKind.wrap IntKind.i64 ((7 : Int) - Int.tmod a (8 : Int))))) (IntKind.bits IntKind.u8))) (2 : Int) == (1 : Int))) (R (AV.bo false) [Blk.cells c false, Blk.cells d false]) (Wk (2 : Nat) { t := [AV.sl (0 : Nat) oa len (1 : Nat) ca, AV.sl (1 : Nat) ob lenb (1 : Nat) cb, AV.i IntKind.i64 n, .bad, .bad, .bad, .bad, AV.i IntKind.i64 (IntKind.wrap IntKind.i64 (a + (1 : Int))), .bad, .bad, .bad, .bad, .bad, .bad, .bad, .bad, .bad, .bad, .bad, .bad, .bad, .bad, .bad, .bad, .bad, .bad, .bad, .bad, .bad, .bad, .bad, .bad, .bad, .bad, .bad, .bad, .bad, .bad, .bad, .bad, .bad, .bad, .bad, .bad, .bad, .bad], h := [Blk.cells c false, Blk.cells d false] } { t := [AV.sl (0 : Nat) oa len (1 : Nat) ca, AV.sl (1 : Nat) ob lenb (1 : Nat) cb, AV.i IntKind.i64 n, .bad, .bad, .bad, .bad, AV.i IntKind.i64 (IntKind.wrap IntKind.i64 (a + (1 : Int))), .bad, .bad, .bad, .bad, .bad, .bad, .bad, .bad, .bad, .bad, .bad, .bad, .bad, .bad, .bad, .bad, .bad, .bad, .bad, .bad, .bad, .bad, .bad, .bad, .bad, .bad, .bad, .bad, .bad, .bad, .bad, .bad, .bad, .bad, .bad, .bad, .bad, .bad], h := [Blk.cells c false, Blk.cells d false] } ∧ ∃ (m : Nat), Holds (m < n_2) ∧ I m (IntKind.wrap IntKind.i64 (a + (1 : Int))))) (Wk (2 : Nat) { t := [AV.sl (0 : Nat) oa len (1 : Nat) ca, AV.sl (1 : Nat) ob lenb (1 : Nat) cb, AV.i IntKind.i64 n, .bad, .bad, .bad, .bad, AV.i IntKind.i64 (IntKind.wrap IntKind.i64 (a + (1 : Int))), .bad, .bad, .bad, .bad, .bad, .bad, .bad, .bad, .bad, .bad, .bad, .bad, .bad, .bad, .bad, .bad, .bad, .bad, .bad, .bad, .bad, .bad, .bad, .bad, .bad, .bad, .bad, .bad, .bad, .bad, .bad, .bad, .bad, .bad, .bad, .bad, .bad, .bad], h := [Blk.cells c false, Blk.cells d false] } { t := [AV.sl (0 : Nat) oa len (1 : Nat) ca, AV.sl (1 : Nat) ob lenb (1 : Nat) cb, AV.i IntKind.i64 n, .bad, .bad, .bad, .bad, AV.i IntKind.i64 (IntKind.wrap IntKind.i64 (a + (1 : Int))), .bad, .bad, .bad, .bad, .bad, .bad, .bad, .bad, .bad, .bad, .bad, .bad, .bad, .bad, .bad, .bad, .bad, .bad, .bad, .bad, .bad, .bad, .bad, .bad, .bad, .bad, .bad, .bad, .bad, .bad, .bad, .bad, .bad, .bad, .bad, .bad, .bad, .bad], h := [Blk.cells c false, Blk.cells d false] } ∧ ∃ (m : Nat), Holds (m < n_2) ∧ I m (IntKind.wrap IntKind.i64 (a + (1 : Int)))))) (R (AV.bo true) [Blk.cells c false, Blk.cells d false])))) := by kernel_rfl
theorem vc34 (H : List Int → List Int → Int → Bool) (p0 p1 p2 p3 p4 p5 p6 p7 p8 p9 p10 p11 p12 p13 p14 p15 n x0 x1 x2 x3 x4 x5 x6 x7 x8 x9 x10 x11 x12 x13 x14 x15 : Int) (R : AV → Hp → Prop) : (wpFn P (tcons 55 (tholdr H) tnil) noW noL 0 Go.Proofs.Tryd.f34 [.ag [.i .u8 p0, .i .u8 p1, .i .u8 p2, .i .u8 p3, .i .u8 p4, .i .u8 p5, .i .u8 p6, .i .u8 p7, .i .u8 p8, .i .u8 p9, .i .u8 p10, .i .u8 p11, .i .u8 p12, .i .u8 p13, .i .u8 p14, .i .u8 p15, .i .i64 n], .ag [.i .u8 x0, .i .u8 x1, .i .u8 x2, .i .u8 x3, .i .u8 x4, .i .u8 x5, .i .u8 x6, .i .u8 x7, .i .u8 x8, .i .u8 x9, .i .u8 x10, .i .u8 x11, .i .u8 x12, .i .u8 x13, .i .u8 x14, .i .u8 x15]] [] R) = (∃ (n_1 : Int), Holds ([AV.i IntKind.u8 p0, AV.i IntKind.u8 p1, AV.i IntKind.u8 p2, AV.i IntKind.u8 p3, AV.i IntKind.u8 p4, AV.i IntKind.u8 p5, AV.i IntKind.u8 p6, AV.i IntKind.u8 p7, AV.i IntKind.u8 p8, AV.i IntKind.u8 p9, AV.i IntKind.u8 p10, AV.i IntKind.u8 p11, AV.i IntKind.u8 p12, AV.i IntKind.u8 p13, AV.i IntKind.u8 p14, AV.i IntKind.u8 p15, AV.i IntKind.i64 n][(16 : Nat)]? = some (AV.i IntKind.i64 n_1)) ∧ Holds (okb ((fun (l : List Int) => p0 :: l) ((fun (l : List Int) => p1 :: l) ((fun (l : List Int) => p2 :: l) ((fun (l : List Int) => p3 :: l) ((fun (l : List Int) => p4 :: l) ((fun (l : List Int) => p5 :: l) ((fun (l : List Int) => p6 :: l) ((fun (l : List Int) => p7 :: l) ((fun (l : List Int) => p8 :: l) ((fun (l : List Int) => p9 :: l) ((fun (l : List Int) => p10 :: l) ((fun (l : List Int) => p11 :: l) ((fun (l : List Int) => p12 :: l) ((fun (l : List Int) => p13 :: l) ((fun (l : List Int) => p14 :: l) ((fun (l : List Int) => p15 :: l) [])))))))))))))))) ∧ okb ((fun (l : List Int) => x0 :: l) ((fun (l : List Int) => x1 :: l) ((fun (l : List Int) => x2 :: l) ((fun (l : List Int) => x3 :: l) ((fun (l : List Int) => x4 :: l) ((fun (l : List Int) => x5 :: l) ((fun (l : List Int) => x6 :: l) ((fun (l : List Int) => x7 :: l) ((fun (l : List Int) => x8 :: l) ((fun (l : List Int) => x9 :: l) ((fun (l : List Int) => x10 :: l) ((fun (l : List Int) => x11 :: l) ((fun (l : List Int) => x12 :: l) ((fun (l : List Int) => x13 :: l) ((fun (l : List Int) => x14 :: l) ((fun (l : List Int) => x15 :: l) [])))))))))))))))) ∧ List.length ((fun (l : List Int) => p0 :: l) ((fun (l : List Int) => p1 :: l) ((fun (l : List Int) => p2 :: l) ((fun (l : List Int) => p3 :: l) ((fun (l : List Int) => p4 :: l) ((fun (l : List Int) => p5 :: l) ((fun (l : List Int) => p6 :: l) ((fun (l : List Int) => p7 :: l) ((fun (l : List Int) => p8 :: l) ((fun (l : List Int) => p9 :: l) ((fun (l : List Int) => p10 :: l) ((fun (l : List Int) => p11 :: l) ((fun (l : List Int) => p12 :: l) ((fun (l : List Int) => p13 :: l) ((fun (l : List Int) => p14 :: l) ((fun (l : List Int) => p15 :: l) [])))))))))))))))) = (16 : Nat) - (0 : Nat) ∧ List.length ((fun (l : List Int) => x0 :: l) ((fun (l : List Int) => x1 :: l) ((fun (l : List Int) => x2 :: l) ((fun (l : List Int) => x3 :: l) ((fun (l : List Int) => x4 :: l) ((fun (l : List Int) => x5 :: l) ((fun (l : List Int) => x6 :: l) ((fun (l : List Int) => x7 :: l) ((fun (l : List Int) => x8 :: l) ((fun (l : List Int) => x9 :: l) ((fun (l : List Int) => x10 :: l) ((fun (l : List Int) => x11 :: l) ((fun (l : List Int) => x12 :: l) ((fun (l : List Int) => x13 :: l) ((fun (l : List Int) => x14 :: l) ((fun (l : List Int) => x15 :: l) [])))))))))))))))) = (16 : Nat) - (0 : Nat) ∧ (16 : Nat) - (0 : Nat) = (16 : Nat) - (0 : Nat) ∧ (16 : Nat) - (0 : Nat) ≤ (16 : Nat) ∧ (0 : Nat) ≠ (1 : Nat)) ∧ R (AV.bo (H [p0, p1, p2, p3, p4, p5, p6, p7, p8, p9, p10, p11, p12, p13, p14, p15] [x0, x1, x2, x3, x4, x5, x6, x7, x8, x9, x10, x11, x12, x13, x14, x15] n_1)) [Blk.cells [AV.i IntKind.u8 p0, AV.i IntKind.u8 p1, AV.i IntKind.u8 p2, AV.i IntKind.u8 p3, AV.i IntKind.u8 p4, AV.i IntKind.u8 p5, AV.i IntKind.u8 p6, AV.i IntKind.u8 p7, AV.i IntKind.u8 p8, AV.i IntKind.u8 p9, AV.i IntKind.u8 p10, AV.i IntKind.u8 p11, AV.i IntKind.u8 p12, AV.i IntKind.u8 p13, AV.i IntKind.u8 p14, AV.i IntKind.u8 p15, AV.i IntKind.i64 n] true, Blk.cells [AV.i IntKind.u8 x0, AV.i IntKind.u8 x1, AV.i IntKind.u8 x2, AV.i IntKind.u8 x3, AV.i IntKind.u8 x4, AV.i IntKind.u8 x5, AV.i IntKind.u8 x6, AV.i IntKind.u8 x7, AV.i IntKind.u8 x8, AV.i IntKind.u8 x9, AV.i IntKind.u8 x10, AV.i IntKind.u8 x11, AV.i IntKind.u8 x12, AV.i IntKind.u8 x13, AV.i IntKind.u8 x14, AV.i IntKind.u8 x15] true]) := by kernel_rfl
theorem vc33 (H : List Int → List Int → Int → Bool) (p0 p1 p2 p3 n x0 x1 x2 x3 : Int) (R : AV → Hp → Prop) : (wpFn P (tcons 55 (tholdr H) tnil) noW noL 0 Go.Proofs.Tryd.f33 [.ag [.i .u8 p0, .i .u8 p1, .i .u8 p2, .i .u8 p3, .i .i64 n], .ag [.i .u8 x0, .i .u8 x1, .i .u8 x2, .i .u8 x3]] [] R) = (∃ (n_1 : Int), Holds ([AV.i IntKind.u8 p0, AV.i IntKind.u8 p1, AV.i IntKind.u8 p2, AV.i IntKind.u8 p3, AV.i IntKind.i64 n][(4 : Nat)]? = some (AV.i IntKind.i64 n_1)) ∧ Holds (okb ((fun (l : List Int) => p0 :: l) ((fun (l : List Int) => p1 :: l) ((fun (l : List Int) => p2 :: l) ((fun (l : List Int) => p3 :: l) [])))) ∧ okb ((fun (l : List Int) => x0 :: l) ((fun (l : List Int) => x1 :: l) ((fun (l : List Int) => x2 :: l) ((fun (l : List Int) => x3 :: l) [])))) ∧ List.length ((fun (l : List Int) => p0 :: l) ((fun (l : List Int) => p1 :: l) ((fun (l : List Int) => p2 :: l) ((fun (l : List Int) => p3 :: l) [])))) = (4 : Nat) - (0 : Nat) ∧ List.length ((fun (l : List Int) => x0 :: l) ((fun (l : List Int) => x1 :: l) ((fun (l : List Int) => x2 :: l) ((fun (l : List Int) => x3 :: l) [])))) = (4 : Nat) - (0 : Nat) ∧ (4 : Nat) - (0 : Nat) = (4 : Nat) - (0 : Nat) ∧ (4 : Nat) - (0 : Nat) ≤ (16 : Nat) ∧ (0 : Nat) ≠ (1 : Nat)) ∧ R (AV.bo (H [p0, p1, p2, p3] [x0, x1, x2, x3] n_1)) [Blk.cells [AV.i IntKind.u8 p0, AV.i IntKind.u8 p1, AV.i IntKind.u8 p2, AV.i IntKind.u8 p3, AV.i IntKind.i64 n] true, Blk.cells [AV.i IntKind.u8 x0, AV.i IntKind.u8 x1, AV.i IntKind.u8 x2, AV.i IntKind.u8 x3] true]) := by kernel_rfl
/-- An address' bit. -/
def bitv (x : Int) (h : Nat) : Bool := Int.tmod (Int.fdiv x ((2 : Int) ^ (7 - h))) 2 == 1
theorem bitv_eq (X h : Nat) : bitv (X : Int) h = X.testBit (7 - h) := by
  unfold bitv
  have p : ((2 : Int) ^ (7 - h)) = ((2 ^ (7 - h) : Nat) : Int) := by norm_cast
  rw [p, fd _ _ (Int.natCast_nonneg _), ← Int.natCast_ediv, Int.tmod_eq_emod_of_nonneg (Int.natCast_nonneg _), Nat.testBit_eq_decide_div_mod_eq, Bool.eq_iff_iff]
  simp only [beq_iff_eq, decide_eq_true_eq]
  omega
theorem byte_bits {X Y k : Nat} (hX : X < 256) (hY : Y < 256) (hk : k ≤ 8) : (X % 2 ^ (8 - k) = 0 ∧ X / 2 ^ (8 - k) = Y / 2 ^ (8 - k)) ↔ ∀ h, h < 8 → (k ≤ h → X.testBit (7 - h) = false) ∧ (h < k → X.testBit (7 - h) = Y.testBit (7 - h)) := by
  constructor
  · rintro ⟨h0, h1⟩ h hh
    refine ⟨fun hkh => ?_, fun hkh => ?_⟩
    · have t := Nat.testBit_mod_two_pow X (8 - k) (7 - h)
      rw [h0, Nat.zero_testBit, decide_eq_true (show 7 - h < 8 - k by omega), Bool.true_and] at t
      exact t.symm
    · have t1 := Nat.testBit_div_two_pow X (n := 8 - k) (k - 1 - h)
      have t2 := Nat.testBit_div_two_pow Y (n := 8 - k) (k - 1 - h)
      rw [show k - 1 - h + (8 - k) = 7 - h by omega] at t1 t2
      rw [← t1, ← t2, h1]
  · intro H
    refine ⟨Nat.eq_of_testBit_eq fun i => ?_, Nat.eq_of_testBit_eq fun i => ?_⟩
    · rw [Nat.testBit_mod_two_pow, Nat.zero_testBit]
      by_cases hi : i < 8 - k
      · have := (H (7 - i) (by omega)).1 (by omega)
        rw [show 7 - (7 - i) = i by omega] at this
        rw [this, Bool.and_false]
      · rw [decide_eq_false hi, Bool.false_and]
    · rw [Nat.testBit_div_two_pow, Nat.testBit_div_two_pow]
      by_cases hi : 8 - k + i < 8
      · have := (H (k - 1 - i) (by omega)).2 (by omega)
        rw [show 7 - (k - 1 - i) = i + (8 - k) by omega] at this
        exact this
      · have p : 2 ^ 8 ≤ 2 ^ (i + (8 - k)) := Nat.pow_le_pow_right (by decide) (by omega)
        have e : (2 : Nat) ^ 8 = 256 := rfl
        rw [Nat.testBit_lt_two_pow (by omega), Nat.testBit_lt_two_pow (by omega)]
theorem byte_bitsI {x y : Int} {k : Nat} (hx : 0 ≤ x ∧ x ≤ 255) (hy : 0 ≤ y ∧ y ≤ 255) (hk : k ≤ 8) : (x % 2 ^ (8 - k) = 0 ∧ x / 2 ^ (8 - k) = y / 2 ^ (8 - k)) ↔ ∀ h, h < 8 → (k ≤ h → bitv x h = false) ∧ (h < k → bitv x h = bitv y h) := by
  obtain ⟨X, rfl⟩ : ∃ X : Nat, x = X := ⟨x.toNat, by omega⟩
  obtain ⟨Y, rfl⟩ : ∃ Y : Nat, y = Y := ⟨y.toNat, by omega⟩
  have p : ((2 : Int) ^ (8 - k)) = ((2 ^ (8 - k) : Nat) : Int) := by norm_cast
  rw [p, ← Int.natCast_ediv, ← Int.natCast_ediv, ← Int.natCast_emod]
  simp only [bitv_eq]
  rw [← byte_bits (by omega) (by omega) hk]
  omega
def okbit (x y : List Int) (n : Int) (j : Nat) : Prop := (n ≤ j → bitv (x.getD (j / 8) 0) (j % 8) = false) ∧ ((j : Int) < n → bitv (x.getD (j / 8) 0) (j % 8) = bitv (y.getD (j / 8) 0) (j % 8))
theorem Hn_bits {x y : List Int} {n : Int} {len : Nat} (hl : x.length = len) (hy : y.length = len) (hox : okb x) (hoy : okb y) : Hn (8 * len) x n y = true ↔ (0 ≤ n ∧ n ≤ 8 * len) ∧ ∀ j, j < 8 * len → okbit x y n j := by
  have core : (0 ≤ n ∧ n ≤ 8 * len) → ((Bv x n = true ∧ Hv x y n = true) ↔ ∀ j, j < 8 * len → okbit x y n j) := by
    intro hn
    rw [Bv, Hv, List.all_eq_true, List.all_eq_true]
    constructor
    · rintro ⟨hb, hh⟩ j hj
      have hi : j / 8 < x.length := by omega
      have b := of_decide_eq_true (hb (j / 8) (List.mem_range.2 hi))
      have c := of_decide_eq_true (hh (j / 8) (List.mem_range.2 hi))
      have := (byte_bitsI (hox _ hi) (hoy _ (by omega)) (kk_le n (j / 8))).1 ⟨b, c⟩ (j % 8) (by omega)
      refine ⟨fun h => this.1 (by unfold kk; omega), fun h => this.2 (by unfold kk; omega)⟩
    · intro H
      have all (i : Nat) (hi : i < x.length) := (byte_bitsI (hox i hi) (hoy i (by omega)) (kk_le n i)).2 fun h hh => by
        have := H (8 * i + h) (by omega)
        rw [okbit, show (8 * i + h) / 8 = i by omega, show (8 * i + h) % 8 = h by omega] at this
        exact ⟨fun g => this.1 (by unfold kk at g; omega), fun g => this.2 (by unfold kk at g; omega)⟩
      exact ⟨fun i hi => decide_eq_true (all i (List.mem_range.1 hi)).1, fun i hi => decide_eq_true (all i (List.mem_range.1 hi)).2⟩
  rw [Hn, Rv, Bool.and_eq_true, Bool.and_eq_true, Bool.and_eq_true, decide_eq_true_eq, decide_eq_true_eq]
  constructor
  · rintro ⟨⟨h0, h1, h2⟩, h3⟩
    exact ⟨⟨h0, h1⟩, (core ⟨h0, h1⟩).1 ⟨h2, h3⟩⟩
  · rintro ⟨h, h'⟩
    obtain ⟨h2, h3⟩ := (core h).2 h'
    exact ⟨⟨h.1, h.2, h2⟩, h3⟩
theorem run55 {oa ob len lenb : Nat} {ca cb : Option Nat} {n : Int} {c d : List AV} {x y : List Int} (hl : x.length = len) (hlb : lenb = len) (hy : y.length = len) (h16 : len ≤ 16) (hox : okb x) (hoy : okb y)
    (hc : ∀ i, i < len → c[oa + i * 1]? = some (.i .u8 (x.getD i 0))) (hd : ∀ i, i < len → d[ob + i * 1]? = some (.i .u8 (y.getD i 0))) :
    wpFn P T55 noW (head55 oa ob len lenb ca cb n c d) 2 Go.Proofs.Tryd.f55 [.sl 0 oa len 1 ca, .sl 1 ob lenb 1 cb, .i .i64 n] [.cells c false, .cells d false] fun v _ => v = .bo (Hn (8 * len) x n y) := by
  subst hlb
  have hb := Hn_bits (n := n) hl hy hox hoy
  have w8l : IntKind.wrap .i64 ((8 : Int) * (lenb : Int)) = 8 * lenb := i64w (by omega) (by omega)
  rw [vc55, w8l]
  have no (h : ¬((0 ≤ n ∧ n ≤ 8 * lenb) ∧ ∀ j, j < 8 * lenb → okbit x y n j)) : AV.bo false = .bo (Hn (8 * lenb) x n y) := by
    rw [Bool.eq_false_iff.2 (fun t => h (hb.1 t))]
  refine br_intro (fun h => no fun g => ?_) (fun h0 => br_intro (fun h => no fun g => ?_) (fun h1 => ?_))
  · have := of_decide_eq_true h; omega
  · have := of_decide_eq_true h; omega
  have h0 := of_decide_eq_false h0
  have h1 := of_decide_eq_false h1
  refine ⟨Wk.refl _ _, fun m i => ∃ k : Nat, i = k ∧ k + m = 8 * lenb ∧ ∀ j, j < k → okbit x y n j, 8 * lenb, ⟨0, rfl, by omega, fun j hj => absurd hj (Nat.not_lt_zero j)⟩, ?_⟩
  rintro i m ⟨k, rfl, hk, hall⟩
  refine br_intro (fun hi => ?_) (fun hi => ?_)
  · have hi := of_decide_eq_true hi
    have ix : IntKind.wrap .i64 (Int.tdiv (k : Int) 8) = ((k / 8 : Nat) : Int) := by
      rcases idx_eq k with h | h
      · exact h
      · omega
    have hkl : k / 8 < lenb := by omega
    have u0 : 0 ≤ IntKind.wrap .u64 (IntKind.wrap .i64 (7 - Int.tmod (k : Int) 8)) := by rw [IntKind.wrap_u64]; omega
    have ix0 : 0 ≤ IntKind.wrap .i64 (Int.tdiv (k : Int) 8) ∧ IntKind.wrap .i64 (Int.tdiv (k : Int) 8) < (lenb : Int) := by rw [ix]; omega
    have gc : c[oa + Int.toNat (IntKind.wrap .i64 (Int.tdiv (k : Int) 8)) * 1]? = some (.i .u8 (x.getD (k / 8) 0)) := by rw [ix, Int.toNat_natCast]; exact hc _ hkl
    have gd : d[ob + Int.toNat (IntKind.wrap .i64 (Int.tdiv (k : Int) 8)) * 1]? = some (.i .u8 (y.getD (k / 8) 0)) := by rw [ix, Int.toNat_natCast]; exact hd _ hkl
    have ex (z : Int) : (Int.tmod (Int.fdiv z ((2 : Int) ^ min (Int.toNat (IntKind.wrap .u64 (IntKind.wrap .i64 (7 - Int.tmod (k : Int) 8)))) (IntKind.bits .u8))) 2 == 1) = bitv z (k % 8) := by rw [shift_eq]; rfl
    have step (h : okbit x y n k) : ∃ m' : Nat, Holds (m' < m) ∧ ∃ k' : Nat, IntKind.wrap .i64 ((k : Int) + 1) = k' ∧ k' + m' = 8 * lenb ∧ ∀ j, j < k' → okbit x y n j := by
      refine ⟨m - 1, ⟨by omega⟩, k + 1, i64w (x := (k : Int) + 1) (by omega) (by omega), by omega, fun j hj => ?_⟩
      rcases Nat.lt_or_ge j k with e | e
      · exact hall j e
      · obtain rfl : j = k := by omega
        exact h
    have bad (h : ¬okbit x y n k) : AV.bo false = .bo (Hn (8 * lenb) x n y) := no fun g => h (g.2 k (by omega))
    simp only [ex]
    refine br_intro (fun hn => ?_) (fun hn => ?_)
    · have hn := of_decide_eq_true hn
      refine ⟨⟨ix0⟩, _, ⟨gc⟩, ⟨u0⟩, br_intro (fun hb => bad fun h => ?_) (fun hb => ?_)⟩
      · rw [h.1 hn] at hb; cases hb
      · refine br_intro (fun hlt => ?_) (fun _ => ⟨Wk.refl _ _, step ⟨fun _ => hb, fun g => ?_⟩⟩)
        · have := of_decide_eq_true hlt; omega
        · omega
    · have hn := of_decide_eq_false hn
      refine br_intro (fun hlt => ?_) (fun hlt => ?_)
      · refine ⟨⟨ix0⟩, _, ⟨gc⟩, ⟨u0⟩, ⟨ix0⟩, _, ⟨gd⟩, ⟨u0⟩, br_intro (fun hb => bad fun h => ?_) (fun hb => ⟨Wk.refl _ _, step ⟨fun g => ?_, fun _ => ?_⟩⟩)⟩
        · rw [h.2 (of_decide_eq_true hlt), beq_self_eq_true] at hb; cases hb
        · omega
        · simpa using hb
      · have := of_decide_eq_false hlt; omega
  · have hi := of_decide_eq_false hi
    rw [hb.2 ⟨by omega, fun j hj => hall j (by omega)⟩]
end Go.Proofs.YtohaalilplngnaaDoor.ClassRun
/- The document's Holds4 and Holds6, by contract. -/
set_option linter.unusedVariables false
set_option linter.unusedSimpArgs false
open Go Go.Proofs.YtohaalilplngnaaDoor.Eng Go.RowKit
namespace Go.Proofs.YtohaalilplngnaaDoor.ClassRun
def Hr (x y : List Int) (n : Int) : Bool := Hn (8 * x.length) x n y
inductive Sholdr (B : List Int → List Int → Int → Bool) : List AV → Hp → AV → Hp → Prop
  | mk {h : Hp} {ia oa la ib ob lb : Nat} {ca cb : Option Nat} {n : Int} {c d : List AV} {wr wr' : Bool} {x y : List Int} (e : h.getD ia .dead = .cells c wr) (f : h.getD ib .dead = .cells d wr') (hx : numsOf ((c.drop oa).take la) = some x) (hy : numsOf ((d.drop ob).take lb) = some y)
      (hk : okb x ∧ okb y ∧ x.length = la ∧ y.length = la ∧ lb = la ∧ la ≤ 16 ∧ ia ≠ ib) : Sholdr B [.sl ia oa la 1 ca, .sl ib ob lb 1 cb, .i .i64 n] h (.bo (B x y n)) h
theorem Sholdr.det {B : List Int → List Int → Int → Bool} : Det (Sholdr B) := by
  intro args h r h' r2 h2 x y
  cases x with
  | mk e f hx hy hk => cases y with
    | mk e' f' hx' hy' hk' => rw [e] at e'; cases e'; rw [f] at f'; cases f'; rw [hx] at hx'; cases hx'; rw [hy] at hy'; cases hy'; exact ⟨rfl, rfl⟩
theorem tholdr_f {B : List Int → List Int → Int → Bool} : FollowsF (tholdr B) (Cof (Sholdr B)) := by
  refine follows_of Sholdr.det fun args h K hk => ?_
  unfold tholdr at hk
  split at hk
  · split at hk
    · rename_i e f
      obtain ⟨x, hx, hk⟩ := optQ_spec hk
      obtain ⟨y, hy, h1, h2⟩ := optQ_spec hk
      exact ⟨_, _, .mk e f hx hy h1.out, h2⟩
    · exact hk.elim
  · exact hk.elim
theorem fn55 : fnOk1 P noW 55 Go.Proofs.Tryd.f55 := ⟨Go.Proofs.Tryd.func55, by kernel_rfl, by kernel_rfl, by kernel_rfl⟩
theorem fn69 : fnOk1 P noW 69 Go.Proofs.Tryd.f69 := ⟨Go.Proofs.Tryd.func69, by kernel_rfl, by kernel_rfl, by kernel_rfl⟩
set_option maxRecDepth 100000 in
theorem hr55_s : SoundF P 55 (Cof (Sholdr Hr)) := by
  refine SoundF.flat (follows_cons (tinl_f (follows_nil _) fn69) (follows_nil _)) (with1_sound fn69.ok (inl_s (noEnv_sound _) mo fn69) (noEnv_sound _)) mo fn55 fun args h r h' he => ?_
  have hx := Cof_spec he
  cases hx with
  | @mk _ ia oa la ib ob lb ca cb n c d wr wr' x y e f hx hy hk =>
    have e := getD_cells e
    have f := getD_cells f
    have hc := numsOf_eq hx
    have hd := numsOf_eq hy
    obtain ⟨k1, k2, k3, k4, rfl, k6, k9⟩ := hk
    refine ⟨rfl, rfl, [ia, ib], head55 oa ob lb lb ca cb n (rens [ia, ib] c) (rens [ia, ib] d), 2, by simpa using ⟨(List.getElem?_eq_some_iff.1 e).1, (List.getElem?_eq_some_iff.1 f).1⟩, ?_⟩
    rw [show rens [ia, ib] [.sl ia oa lb 1 ca, .sl ib ob lb 1 cb, .i .i64 n] = [.sl 0 oa lb 1 ca, .sl 1 ob lb 1 cb, .i .i64 n] from by simp [rens, ren, posOf, k9], show pickH h [ia, ib] = [.cells (rens [ia, ib] c) false, .cells (rens [ia, ib] d) false] from by simp [pickH, renB, e, f], show Hr x y n = Hn (8 * lb) x n y from by rw [Hr, k3]]
    exact run55 k3 rfl k4 k6 k1 k2 (fun i hi => rens_cell (cell_at hc k3 hi)) (fun i hi => rens_cell (cell_at hd k4 hi))
theorem run34 {p0 p1 p2 p3 p4 p5 p6 p7 p8 p9 p10 p11 p12 p13 p14 p15 n x0 x1 x2 x3 x4 x5 x6 x7 x8 x9 x10 x11 x12 x13 x14 x15 : Int} (hk : okb [p0, p1, p2, p3, p4, p5, p6, p7, p8, p9, p10, p11, p12, p13, p14, p15]) (hx : okb [x0, x1, x2, x3, x4, x5, x6, x7, x8, x9, x10, x11, x12, x13, x14, x15]) : Holds (wpFn P (tcons 55 (tholdr Hr) tnil) noW noL 0 Go.Proofs.Tryd.f34 [.ag [.i .u8 p0, .i .u8 p1, .i .u8 p2, .i .u8 p3, .i .u8 p4, .i .u8 p5, .i .u8 p6, .i .u8 p7, .i .u8 p8, .i .u8 p9, .i .u8 p10, .i .u8 p11, .i .u8 p12, .i .u8 p13, .i .u8 p14, .i .u8 p15, .i .i64 n], .ag [.i .u8 x0, .i .u8 x1, .i .u8 x2, .i .u8 x3, .i .u8 x4, .i .u8 x5, .i .u8 x6, .i .u8 x7, .i .u8 x8, .i .u8 x9, .i .u8 x10, .i .u8 x11, .i .u8 x12, .i .u8 x13, .i .u8 x14, .i .u8 x15]] [] fun v _ => v = .bo (Hn 128 [p0, p1, p2, p3, p4, p5, p6, p7, p8, p9, p10, p11, p12, p13, p14, p15] n [x0, x1, x2, x3, x4, x5, x6, x7, x8, x9, x10, x11, x12, x13, x14, x15])) := by
  refine ⟨?_⟩
  rw [vc34]
  exact ⟨n, ⟨rfl⟩, ⟨⟨hk, hx, rfl, rfl, rfl, by decide, by decide⟩⟩, rfl⟩
theorem fn34 : fnOk1 P noW 34 Go.Proofs.Tryd.f34 := ⟨Go.Proofs.Tryd.func34, by kernel_rfl, by kernel_rfl, by kernel_rfl⟩
set_option maxRecDepth 100000 in
theorem hold34_s : SoundF P 34 (Cof (Splain mkNetA (fun q => okb q.1 ∧ q.1.length = 16 ∧ okb q.2.2 ∧ q.2.2.length = 16) fun q => .bo (Hn 128 q.1 q.2.1 q.2.2))) := by
  refine SoundF.plainH (follows_cons tholdr_f (follows_nil _)) (with1_sound fn55.ok hr55_s (noEnv_sound _)) mo fn34 (fun q => ?_) (fun _ => rfl) noL ?_
  · show AV.unders 0 [.ag (q.1.map (AV.i .u8) ++ [.i .i64 q.2.1]), .ag (q.2.2.map (AV.i .u8))] = true
    simp only [AV.unders, AV.under, unders_append, Bool.and_true, Bool.and_eq_true]
    exact ⟨unders_map 0 _ (fun _ => rfl) _, unders_map 0 _ (fun _ => rfl) _⟩
  · rintro ⟨l, n, a⟩ ⟨hk, hl, hx, ha⟩
    match l, hl, a, ha with
    | [p0, p1, p2, p3, p4, p5, p6, p7, p8, p9, p10, p11, p12, p13, p14, p15], _, [x0, x1, x2, x3, x4, x5, x6, x7, x8, x9, x10, x11, x12, x13, x14, x15], _ => exact run34 hk hx
theorem run33 {p0 p1 p2 p3 n x0 x1 x2 x3 : Int} (hk : okb [p0, p1, p2, p3]) (hx : okb [x0, x1, x2, x3]) : Holds (wpFn P (tcons 55 (tholdr Hr) tnil) noW noL 0 Go.Proofs.Tryd.f33 [.ag [.i .u8 p0, .i .u8 p1, .i .u8 p2, .i .u8 p3, .i .i64 n], .ag [.i .u8 x0, .i .u8 x1, .i .u8 x2, .i .u8 x3]] [] fun v _ => v = .bo (Hn 32 [p0, p1, p2, p3] n [x0, x1, x2, x3])) := by
  refine ⟨?_⟩
  rw [vc33]
  exact ⟨n, ⟨rfl⟩, ⟨⟨hk, hx, rfl, rfl, rfl, by decide, by decide⟩⟩, rfl⟩
theorem fn33 : fnOk1 P noW 33 Go.Proofs.Tryd.f33 := ⟨Go.Proofs.Tryd.func33, by kernel_rfl, by kernel_rfl, by kernel_rfl⟩
set_option maxRecDepth 100000 in
theorem hold33_s : SoundF P 33 (Cof (Splain mkNetA (fun q => okb q.1 ∧ q.1.length = 4 ∧ okb q.2.2 ∧ q.2.2.length = 4) fun q => .bo (Hn 32 q.1 q.2.1 q.2.2))) := by
  refine SoundF.plainH (follows_cons tholdr_f (follows_nil _)) (with1_sound fn55.ok hr55_s (noEnv_sound _)) mo fn33 (fun q => ?_) (fun _ => rfl) noL ?_
  · show AV.unders 0 [.ag (q.1.map (AV.i .u8) ++ [.i .i64 q.2.1]), .ag (q.2.2.map (AV.i .u8))] = true
    simp only [AV.unders, AV.under, unders_append, Bool.and_true, Bool.and_eq_true]
    exact ⟨unders_map 0 _ (fun _ => rfl) _, unders_map 0 _ (fun _ => rfl) _⟩
  · rintro ⟨l, n, a⟩ ⟨hk, hl, hx, ha⟩
    match l, hl, a, ha with
    | [p0, p1, p2, p3], _, [x0, x1, x2, x3], _ => exact run33 hk hx
end Go.Proofs.YtohaalilplngnaaDoor.ClassRun
