/- Bits of addresses: struck, turned. -/
import Derived.Test.YtfnbbgnknkondaaRulesNet
set_option linter.unusedVariables false
set_option linter.unusedSimpArgs false
open Go Go.Proofs.Ytfnbbgnknkondaa.Eng Go.RowKit
namespace Go.Proofs.Ytfnbbgnknkondaa.RulesRun
def kk (n : Int) (i : Nat) : Nat := min (n - 8 * i).toNat 8
def okb (l : List Int) : Prop := ∀ i, i < l.length → 0 ≤ l.getD i 0 ∧ l.getD i 0 ≤ 255
theorem kk_le (n : Int) (i : Nat) : kk n i ≤ 8 := Nat.min_le_right _ _
/-- The first lo bits, and those behind the first hi. -/
def mid (x : Int) (lo hi : Nat) : Int := x / 2 ^ (8 - lo) * 2 ^ (8 - lo) + x % 2 ^ (8 - hi)
def stepOk (x lo h : Nat) : Bool := decide (Go.bits .andNot .u8 (mid x lo h) (IntKind.wrap .u8 (1 * 2 ^ (7 - h))) = mid x lo (h + 1))
set_option maxRecDepth 10000000 in
theorem stepAll : ((List.range 256).all fun x => (List.range 8).all fun h => (List.range (h + 1)).all fun lo => stepOk x lo h) = true := by kernel_rfl
theorem step_bit {x : Int} (h0 : 0 ≤ x) (h1 : x ≤ 255) {lo h : Nat} (hh : h < 8) (hl : lo ≤ h) : Go.bits .andNot .u8 (mid x lo h) (IntKind.wrap .u8 (1 * 2 ^ (7 - h))) = mid x lo (h + 1) := by
  obtain ⟨X, rfl⟩ : ∃ X : Nat, x = X := ⟨x.toNat, by omega⟩
  have a := List.all_eq_true.1 stepAll X (List.mem_range.2 (by omega))
  have b := List.all_eq_true.1 a h (List.mem_range.2 hh)
  have c := List.all_eq_true.1 b lo (List.mem_range.2 (by omega))
  exact of_decide_eq_true c
theorem mid_same (x : Int) (k : Nat) : mid x k k = x := by
  unfold mid
  have := Int.mul_ediv_add_emod x (2 ^ (8 - k))
  rw [Int.mul_comm]; exact this
theorem mid_end (x : Int) (k : Nat) : mid x k 8 = x / 2 ^ (8 - k) * 2 ^ (8 - k) := by
  unfold mid; simp
def midL (l : List Int) (n i : Int) : List Int := (List.range l.length).map fun j => mid (l.getD j 0) (kk n j) (kk i j)
def cutL (l : List Int) (n : Int) : List Int := (List.range l.length).map fun j => l.getD j 0 / 2 ^ (8 - kk n j) * 2 ^ (8 - kk n j)
theorem midL_len (l : List Int) (n i : Int) : (midL l n i).length = l.length := by simp [midL]
theorem cutL_len (l : List Int) (n : Int) : (cutL l n).length = l.length := by simp [cutL]
theorem midL_get {l : List Int} {n i : Int} {j : Nat} (h : j < l.length) : (midL l n i)[j]? = some (mid (l.getD j 0) (kk n j) (kk i j)) := by simp [midL, h]
theorem midL_start (l : List Int) (n : Int) : midL l n n = l := by
  apply List.ext_getElem?
  intro j
  by_cases h : j < l.length
  · rw [midL_get h, mid_same, List.getD_eq_getElem?_getD, List.getElem?_eq_getElem h]; rfl
  · rw [List.getElem?_eq_none (by rw [midL_len]; omega), List.getElem?_eq_none (by omega)]
theorem midL_stop (l : List Int) (n i : Int) (h : 8 * l.length ≤ i) : midL l n i = cutL l n := by
  unfold midL cutL
  apply List.map_congr_left
  intro j hj
  have hj := List.mem_range.1 hj
  have : kk i j = 8 := by unfold kk; omega
  rw [this, mid_end]
/-- A step: one bit is struck. -/
theorem midL_step {l : List Int} {n : Int} {i : Nat} (ho : okb l) (hn : 0 ≤ n) (hni : n ≤ i) (hi : i < 8 * l.length) :
    setAll ((midL l n i).map (AV.i .u8)) (0 + (i / 8) * 1) [.i .u8 (Go.bits .andNot .u8 (mid (l.getD (i / 8) 0) (kk n (i / 8)) (i % 8)) (IntKind.wrap .u8 (1 * 2 ^ (7 - i % 8))))] = (midL l n ((i : Int) + 1)).map (AV.i .u8) := by
  have hj : i / 8 < l.length := by omega
  have hb := ho (i / 8) hj
  rw [step_bit hb.1 hb.2 (by omega) (by unfold kk; omega)]
  show ((midL l n i).map (AV.i .u8)).set (0 + (i / 8) * 1) _ = _
  rw [Nat.zero_add, Nat.mul_one]
  apply List.ext_getElem?
  intro j
  by_cases e : i / 8 = j
  · subst e
    rw [List.getElem?_set_self (by rw [List.length_map, midL_len]; exact hj), List.getElem?_map, midL_get hj]
    have : kk ((i : Int) + 1) (i / 8) = i % 8 + 1 := by unfold kk; omega
    rw [this]; rfl
  · rw [List.getElem?_set_ne e, List.getElem?_map, List.getElem?_map]
    by_cases h : j < l.length
    · rw [midL_get h, midL_get h]
      have : kk ((i : Int) + 1) j = kk i j := by unfold kk; omega
      rw [this]
    · rw [List.getElem?_eq_none (by rw [midL_len]; omega), List.getElem?_eq_none (by rw [midL_len]; omega)]

/-- A bit of a byte. -/
def bitB (x : Int) (h : Nat) : Nat := x.toNat / 2 ^ (7 - h) % 2
def maskOk (h : Nat) : Bool := decide (Int.fdiv 128 (2 ^ h) = IntKind.wrap .u8 (1 * 2 ^ (7 - h)))
theorem mask_eq {h : Nat} (hh : h < 8) : Int.fdiv 128 (2 ^ h) = IntKind.wrap .u8 (1 * 2 ^ (7 - h)) :=
  of_decide_eq_true (List.all_eq_true.1 (show ((List.range 8).all maskOk) = true by kernel_rfl) h (List.mem_range.2 hh))
def cutOk (x k h : Nat) : Bool := bitB ((x : Int) / 2 ^ (8 - k) * 2 ^ (8 - k)) h == if h < k then bitB x h else 0
set_option maxRecDepth 10000000 in
theorem cutAll : ((List.range 256).all fun x => (List.range 9).all fun k => (List.range 8).all fun h => cutOk x k h) = true := by kernel_rfl
theorem cut_bit {x : Int} (h0 : 0 ≤ x) (h1 : x ≤ 255) {k h : Nat} (hk : k ≤ 8) (hh : h < 8) : bitB (x / 2 ^ (8 - k) * 2 ^ (8 - k)) h = if h < k then bitB x h else 0 := by
  obtain ⟨X, rfl⟩ : ∃ X : Nat, x = X := ⟨x.toNat, by omega⟩
  have a := List.all_eq_true.1 cutAll X (List.mem_range.2 (by omega))
  have b := List.all_eq_true.1 a k (List.mem_range.2 (by omega))
  have c := List.all_eq_true.1 b h (List.mem_range.2 hh)
  exact eq_of_beq c
def flipB (x : Int) (h : Nat) : Int := Go.bits .xor .u8 x (Int.fdiv 128 (2 ^ h))
def flipOk (x t h : Nat) : Bool := decide (0 ≤ flipB x t ∧ flipB x t ≤ 255) && (bitB (flipB x t) h == if h = t then 1 - bitB x h else bitB x h)
set_option maxRecDepth 10000000 in
theorem flipAll : ((List.range 256).all fun x => (List.range 8).all fun t => (List.range 8).all fun h => flipOk x t h) = true := by kernel_rfl
theorem flip_bit {x : Int} (h0 : 0 ≤ x) (h1 : x ≤ 255) {t h : Nat} (ht : t < 8) (hh : h < 8) : (0 ≤ flipB x t ∧ flipB x t ≤ 255) ∧ bitB (flipB x t) h = if h = t then 1 - bitB x h else bitB x h := by
  obtain ⟨X, rfl⟩ : ∃ X : Nat, x = X := ⟨x.toNat, by omega⟩
  have a := List.all_eq_true.1 flipAll X (List.mem_range.2 (by omega))
  have b := List.all_eq_true.1 a t (List.mem_range.2 ht)
  have c := List.all_eq_true.1 b h (List.mem_range.2 hh)
  unfold flipOk at c
  rw [Bool.and_eq_true, decide_eq_true_eq] at c
  exact ⟨c.1, eq_of_beq c.2⟩
theorem bit_lt (x : Int) (h : Nat) : bitB x h < 2 := Nat.mod_lt _ (by decide)
/-- A text's bytes. -/
def nums (s : ByteArray) : List Int := s.data.toList.map fun b => (b.toNat : Int)
theorem nums_len (s : ByteArray) : (nums s).length = s.size := by rw [nums, List.length_map, size_list]
theorem bytesAV_nums (s : ByteArray) : bytesAV s = (nums s).map (AV.i .u8) := by
  rw [bytesAV, nums, List.map_map]; rfl
theorem nums_get {s : ByteArray} {i : Nat} (h : i < s.size) : (nums s).getD i 0 = byteAt s i := by
  have h' : i < s.data.toList.length := by rw [size_list]; exact h
  rw [nums, byteAt, List.getD_eq_getElem?_getD, List.getElem?_map, List.getElem?_eq_getElem h', List.getD_eq_getElem?_getD, List.getElem?_eq_getElem h']
  rfl
theorem nums_ok (s : ByteArray) : okb (nums s) := by
  intro i hi
  rw [nums_len] at hi
  rw [nums_get hi]
  have := byteAt_lt s i
  omega
theorem text_size (l : List Int) : (textOf l).size = l.length := by rw [← size_list]; simp [textOf]
theorem text_byte {l : List Int} (h : okb l) {i : Nat} (hi : i < l.length) : (byteAt (textOf l) i : Int) = l.getD i 0 := by
  have hb := h i hi
  rw [List.getD_eq_getElem?_getD, List.getElem?_eq_getElem hi, Option.getD_some] at hb
  rw [byteAt, List.getD_eq_getElem?_getD, List.getD_eq_getElem?_getD]
  simp only [textOf, List.getElem?_map, List.getElem?_eq_getElem hi, Option.map_some, Option.getD_some, UInt8.toNat_ofNat']
  omega
def bitL (l : List Int) (j : Nat) : Nat := bitB (l.getD (j / 8) 0) (j % 8)
theorem bitS_text {l : List Int} (h : okb l) {j : Nat} (hj : j < 8 * l.length) : bitS (textOf l) j = bitL l j := by
  have hb := text_byte h (show j / 8 < l.length by omega)
  have hp := (h (j / 8) (by omega)).1
  unfold bitS bitL bitB
  rw [Int.toNat_natCast]
  have : byteAt (textOf l) (j / 8) = (l.getD (j / 8) 0).toNat := by omega
  rw [this]
theorem bitS_nums {s : ByteArray} {j : Nat} (hj : j < 8 * s.size) : bitS s j = bitL (nums s) j := by
  unfold bitS bitL bitB
  rw [Int.toNat_natCast, nums_get (by omega), Int.toNat_natCast]
def cutS (s : ByteArray) (n : Int) : ByteArray := textOf (cutL (nums s) n)
theorem cutS_size (s : ByteArray) (n : Int) : (cutS s n).size = s.size := by rw [cutS, text_size, cutL_len, nums_len]
theorem cutL_ok {l : List Int} {n : Int} (h : okb l) : okb (cutL l n) := by
  intro i hi
  rw [cutL_len] at hi
  have hb := h i hi
  have e : (cutL l n).getD i 0 = l.getD i 0 / 2 ^ (8 - kk n i) * 2 ^ (8 - kk n i) := by
    rw [List.getD_eq_getElem?_getD, cutL, List.getElem?_map, List.getElem?_range hi]; rfl
  rw [e]
  have p : (0 : Int) < 2 ^ (8 - kk n i) := Int.pow_pos (by decide)
  have := Int.ediv_mul_le (l.getD i 0) (Int.ne_of_gt p)
  have := Int.ediv_nonneg hb.1 (Int.le_of_lt p)
  have := Int.mul_nonneg this (Int.le_of_lt p)
  omega
theorem cutS_bit {s : ByteArray} {n : Int} {j : Nat} (hn : 0 ≤ n) (hj : j < 8 * s.size) : bitS (cutS s n) j = if (j : Int) < n then bitS s j else 0 := by
  have hl := nums_len s
  have hb := nums_ok s (j / 8) (by omega)
  rw [cutS, bitS_text (cutL_ok (nums_ok s)) (by rw [cutL_len]; omega), bitS_nums hj]
  unfold bitL
  have e : (cutL (nums s) n).getD (j / 8) 0 = (nums s).getD (j / 8) 0 / 2 ^ (8 - kk n (j / 8)) * 2 ^ (8 - kk n (j / 8)) := by
    rw [List.getD_eq_getElem?_getD, cutL, List.getElem?_map, List.getElem?_range (show j / 8 < (nums s).length by omega)]; rfl
  rw [e, cut_bit hb.1 hb.2 (kk_le _ _) (by omega)]
  have : j % 8 < kk n (j / 8) ↔ (j : Int) < n := by unfold kk; omega
  by_cases h : (j : Int) < n
  · rw [if_pos (this.2 h), if_pos h]
  · rw [if_neg (fun g => h (this.1 g)), if_neg h]; rfl
theorem in_cut {s a : ByteArray} {n : Int} (hs : s.size = 4 ∨ s.size = 16) (h0 : 0 ≤ n) (h1 : n ≤ 8 * s.size) (ha : a.size = s.size) : inB (cutS s n) n a = true ↔ ∀ j : Nat, (j : Int) < n → bitS s j = bitS a j := by
  have hz := cutS_size s n
  have hany : anyB (cutS s n) n = false := by
    unfold anyB
    have e : (s.size == 0) = false := by
      rw [Bool.eq_false_iff]
      intro t
      rw [beq_iff_eq] at t
      omega
    rw [hz, e, Bool.false_and]
  have hnet : netB (cutS s n) n = true := by
    unfold netB
    rw [hany, Bool.false_or, hz]
    simp only [Bool.and_eq_true, Bool.or_eq_true, beq_iff_eq, decide_eq_true_eq]
    refine ⟨hs, ⟨h0, h1⟩, List.all_eq_true.2 fun j hj => decide_eq_true fun hnj => ?_⟩
    rw [cutS_bit h0 (List.mem_range.1 hj), if_neg (by omega)]
  unfold inB
  rw [hnet, hany, Bool.true_and, Bool.false_or, hz, ha]
  have e1 : (s.size == 4 || s.size == 16) = true := by simpa using hs
  rw [e1, beq_self_eq_true, Bool.true_and, Bool.true_and, List.all_eq_true]
  constructor
  · intro h j hj
    have := h j (List.mem_range.2 (by omega))
    rw [beq_iff_eq, cutS_bit h0 (by omega), if_pos hj] at this
    exact this
  · intro h j hj
    have hj := List.mem_range.1 hj
    rw [beq_iff_eq, cutS_bit h0 (by omega), if_pos (by omega)]
    exact h j (by omega)
/-- One bit is turned. -/
def turnL (l : List Int) (t : Nat) : List Int := l.set (t / 8) (flipB (l.getD (t / 8) 0) (t % 8))
theorem turnL_ok {l : List Int} {t : Nat} (h : okb l) (ht : t < 8 * l.length) : okb (turnL l t) := by
  intro i hi
  rw [turnL, List.length_set] at hi
  rw [turnL, List.getD_eq_getElem?_getD]
  by_cases e : t / 8 = i
  · subst e
    have hb := h (t / 8) hi
    rw [List.getElem?_set_self hi, Option.getD_some]
    exact (flip_bit hb.1 hb.2 (h := 0) (by omega) (by decide)).1
  · rw [List.getElem?_set_ne e, ← List.getD_eq_getElem?_getD]
    exact h i hi
theorem turnL_bit {l : List Int} {t j : Nat} (h : okb l) (ht : t < 8 * l.length) (hj : j < 8 * l.length) : bitL (turnL l t) j = if j = t then 1 - bitL l j else bitL l j := by
  unfold bitL turnL
  rw [List.getD_eq_getElem?_getD]
  by_cases e : t / 8 = j / 8
  · have hb := h (t / 8) (by omega)
    rw [← e, List.getElem?_set_self (by omega), Option.getD_some, (flip_bit hb.1 hb.2 (h := j % 8) (by omega) (by omega)).2]
    by_cases g : j = t
    · subst g; rw [if_pos rfl, if_pos rfl]
    · rw [if_neg g, if_neg (by omega)]
  · rw [List.getElem?_set_ne e, ← List.getD_eq_getElem?_getD, if_neg (fun g => e (by rw [g]))]
theorem in_turn {s : ByteArray} {n : Int} {t : Nat} (hs : s.size = 4 ∨ s.size = 16) (h0 : 0 ≤ n) (h1 : n ≤ 8 * s.size) (ht : t < 8 * s.size) : inB (cutS s n) n (textOf (turnL (nums s) t)) = decide ((t : Int) ≥ n) := by
  have hl := nums_len s
  have hz : (textOf (turnL (nums s) t)).size = s.size := by rw [text_size, turnL, List.length_set, hl]
  rw [Bool.eq_iff_iff, decide_eq_true_eq, in_cut hs h0 h1 hz]
  have bt : ∀ j : Nat, j < 8 * s.size → (bitS (textOf (turnL (nums s) t)) j : Int) = if j = t then 1 - bitS s j else bitS s j := by
    intro j hj
    rw [bitS_text (turnL_ok (nums_ok s) (by omega)) (by rw [turnL, List.length_set]; omega), turnL_bit (nums_ok s) (by omega) (by omega), bitS_nums hj]
    have := bit_lt ((nums s).getD (j / 8) 0) (j % 8)
    by_cases g : j = t
    · rw [if_pos g, if_pos g]; unfold bitL; omega
    · rw [if_neg g, if_neg g]
  constructor
  · intro h
    rcases Int.lt_or_le (t : Int) n with g | g
    · have := h t g
      rw [bt t ht, if_pos rfl] at this
      have h2 : bitS s t = 0 ∨ bitS s t = 1 := by
        unfold bitS
        have := Nat.mod_lt (byteAt s (Int.toNat (t : Int) / 8) / 2 ^ (7 - Int.toNat (t : Int) % 8)) (show 0 < 2 by decide)
        omega
      omega
    · exact g
  · intro h j hj
    rw [bt j (by omega), if_neg (by omega)]
theorem in_self {s : ByteArray} {n : Int} (hs : s.size = 4 ∨ s.size = 16) (h0 : 0 ≤ n) (h1 : n ≤ 8 * s.size) : inB (cutS s n) n s = true := by
  rw [in_cut hs h0 h1 rfl]
  exact fun _ _ => rfl
end Go.Proofs.Ytfnbbgnknkondaa.RulesRun
