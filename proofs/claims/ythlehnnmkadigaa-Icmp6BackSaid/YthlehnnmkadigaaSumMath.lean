/- The plain numbers behind the sums of chapter 2: no program, no memory. -/
import Derived.RowKit
import Derived.Laws.Entries
import Derived.Laws.BitsLemmas
namespace Go.Proofs.Ythlehnnmkadigaa.SumMath
open Go.RowKit

/-- A total, folded below 65536. -/
def F (n : Int) : Int := if n ≤ 0 then 0 else (n - 1) % 65535 + 1
theorem F_range (n : Int) : 0 ≤ F n ∧ F n ≤ 65535 := by unfold F; split <;> omega
theorem F_small {n : Int} (h0 : 0 ≤ n) (h : n ≤ 65535) : F n = n := by unfold F; split <;> omega
theorem F_step {n : Int} (h : 65535 < n) : F (n / 65536 + n % 65536) = F n := by unfold F; split <;> split <;> omega
theorem F_pos {n : Int} (h : 0 < n) : 0 < F n := by unfold F; split <;> omega
theorem F_add {n m : Int} (h0 : 0 ≤ n) (h : 0 ≤ m) : F (F n + m) = F (n + m) := by unfold F; split <;> split <;> (try split) <;> omega
theorem F_congr {x y : Int} (hx : 0 < x) (hy : 0 < y) (h : (x - y) % 65535 = 0) : F x = F y := by unfold F; split <;> split <;> omega
theorem F_full {x : Int} (hx : 0 < x) (h : x % 65535 = 0) : F x = 65535 := by unfold F; split <;> omega
theorem F_mod (n : Int) (h : 0 ≤ n) : (n - F n) % 65535 = 0 := by unfold F; split <;> omega

/-- A byte, or what is left of 255. -/
def wv (t : Bool) (b : UInt8) : Int := if t then 255 - (b.toNat : Int) else (b.toNat : Int)
theorem wv_range (t : Bool) (b : UInt8) : 0 ≤ wv t b ∧ wv t b ≤ 255 := by
  have := b.toNat_lt; unfold wv; split <;> omega
/-- A text's total, from an even (e) or an odd place on. -/
def ws (t e : Bool) : List UInt8 → Int
  | [] => 0
  | b :: r => (if e then wv t b * 256 else wv t b) + ws t (!e) r
theorem ws_range (t : Bool) : ∀ (l : List UInt8) (e : Bool), 0 ≤ ws t e l ∧ ws t e l ≤ 65280 * (l.length : Int)
  | [], e => by simp [ws]
  | b :: r, e => by
    have h := ws_range t r (!e); have hb := wv_range t b
    simp only [ws, List.length_cons]; split <;> omega
/-- The evenness behind n more places. -/
def pe (e : Bool) (n : Nat) : Bool := if n % 2 = 0 then e else !e
theorem pe_zero (e : Bool) : pe e 0 = e := rfl
theorem pe_even {e : Bool} {n : Nat} (h : n % 2 = 0) : pe e n = e := by simp [pe, h]
theorem pe_succ (e : Bool) (n : Nat) : pe (!e) n = pe e (n + 1) := by
  unfold pe
  by_cases h : n % 2 = 0
  · rw [if_pos h, if_neg (by omega)]
  · rw [if_neg h, if_pos (by omega), Bool.not_not]
theorem pe_add (e : Bool) (n m : Nat) : pe (pe e n) m = pe e (n + m) := by
  unfold pe
  by_cases h : n % 2 = 0 <;> by_cases h' : m % 2 = 0
  · rw [if_pos h, if_pos h', if_pos (by omega)]
  · rw [if_pos h, if_neg h', if_neg (by omega)]
  · rw [if_neg h, if_pos h', if_neg (by omega)]
  · rw [if_neg h, if_neg h', if_pos (by omega), Bool.not_not]
theorem ws_append (t : Bool) : ∀ (a b : List UInt8) (e : Bool), ws t e (a ++ b) = ws t e a + ws t (pe e a.length) b
  | [], b, e => by simp [ws, pe]
  | x :: a, b, e => by
    rw [List.cons_append]
    simp only [ws, List.length_cons]
    rw [ws_append t a b (!e), pe_succ]; omega
theorem ws_both : ∀ (l : List UInt8), l.length % 2 = 0 → ws true true l + ws false true l = 65535 * ((l.length : Int) / 2)
  | [], _ => by simp [ws]
  | [a], h => by simp at h
  | a :: b :: r, h => by
    have ih := ws_both r (by simp only [List.length_cons] at h; omega)
    simp only [ws, wv, List.length_cons, Bool.not_true, Bool.not_false, if_true, if_false, Bool.false_eq_true] at ih ⊢
    omega
theorem ws_zero_iff : ∀ (l : List UInt8) (e : Bool), (∀ b ∈ l, b = 0) → ws false e l = 0
  | [], e, _ => rfl
  | b :: r, e, h => by
    have hb := h b (by simp)
    have hr := ws_zero_iff r (!e) (fun x hx => h x (by simp [hx]))
    subst hb
    simp [ws, wv, hr]
theorem ws_pos : ∀ (l : List UInt8) (e : Bool), (∃ b ∈ l, b ≠ 0) → 0 < ws false e l
  | [], e, h => by simp at h
  | b :: r, e, h => by
    have hr := (ws_range false r (!e)).1
    have hb := (wv_range false b).1
    by_cases hz : b = 0
    · obtain ⟨x, hx, hne⟩ := h
      have : 0 < ws false (!e) r := ws_pos r (!e) ⟨x, by
        rcases List.mem_cons.1 hx with rfl | hx
        · exact absurd hz hne
        · exact hx, hne⟩
      simp only [ws]; split <;> omega
    · have : 0 < wv false b := by
        unfold wv
        have : b.toNat ≠ 0 := fun h0 => hz (UInt8.toNat.inj h0)
        simp only [Bool.false_eq_true, if_false]; omega
      simp only [ws]; split <;> omega
/-- A nought behind a text of an odd length. -/
def padl (l : List UInt8) : List UInt8 := if l.length % 2 = 1 then l ++ [0] else l
theorem padl_even (l : List UInt8) : (padl l).length % 2 = 0 := by
  unfold padl; split
  · rw [List.length_append]; simp only [List.length_cons, List.length_nil]; omega
  · omega
theorem padl_len (l : List UInt8) : (padl l).length = l.length + l.length % 2 := by
  unfold padl; split
  · rw [List.length_append]; simp only [List.length_cons, List.length_nil]; omega
  · omega
theorem ws_pad (e : Bool) (l : List UInt8) : ws false e (padl l) = ws false e l := by
  unfold padl; split
  · rw [ws_append]; simp [ws, wv]
  · rfl
/-- The words of a text of an even length. -/
def words : List UInt8 → List Int
  | a :: b :: r => ((a.toNat : Int) * 256 + (b.toNat : Int)) :: words r
  | _ => []
def isum : List Int → Int
  | [] => 0
  | x :: r => x + isum r
theorem isum_append : ∀ (a b : List Int), isum (a ++ b) = isum a + isum b
  | [], b => by simp [isum]
  | x :: a, b => by rw [List.cons_append]; simp only [isum]; rw [isum_append a b]; omega
theorem isum_words : ∀ (l : List UInt8), l.length % 2 = 0 → isum (words l) = ws false true l
  | [], _ => rfl
  | [a], h => by simp at h
  | a :: b :: r, h => by
    have ih := isum_words r (by simp only [List.length_cons] at h; omega)
    simp only [words, isum, ih, ws, wv, Bool.not_true, Bool.not_false, if_true, Bool.false_eq_true, if_false]
    omega
theorem words_len : ∀ (l : List UInt8), ((words l).length : Int) = (l.length : Int) / 2
  | [] => rfl
  | [a] => by simp [words]
  | a :: b :: r => by
    have ih := words_len r
    simp only [words, List.length_cons]; omega
theorem words_range : ∀ (l : List UInt8) (x : Int), x ∈ words l → 0 ≤ x ∧ x ≤ 65535
  | [], x, h => by simp [words] at h
  | [a], x, h => by simp [words] at h
  | a :: b :: r, x, h => by
    simp only [words, List.mem_cons] at h
    have ha := a.toNat_lt; have hb := b.toNat_lt
    rcases h with rfl | h
    · omega
    · exact words_range r x h
/-- What is left of 65535 of each. -/
theorem isum_left : ∀ (l : List Int), isum (l.map fun x => 65535 - x) = 65535 * (l.length : Int) - isum l
  | [] => rfl
  | x :: r => by simp only [List.map_cons, isum, List.length_cons, isum_left r]; omega
theorem isum_range {c : Int} (h0 : 0 ≤ c) : ∀ (l : List Int), (∀ x ∈ l, 0 ≤ x ∧ x ≤ c) → 0 ≤ isum l ∧ isum l ≤ c * (l.length : Int)
  | [], _ => by simp [isum]
  | x :: r, h => by
    have hx := h x (by simp)
    have hr := isum_range h0 r (fun y hy => h y (by simp [hy]))
    simp only [isum, List.length_cons]
    rw [Int.natCast_succ, Int.mul_add]
    omega

theorem wrap_id {x : Int} (h0 : -9223372036854775808 ≤ x) (h : x ≤ 9223372036854775807) : wrap64 x = x := by unfold wrap64; omega
theorem and_low (x : Int) : Go.bits .and .i64 x 65535 = x % 65536 := by
  unfold Go.bits
  have e : (BitVec.ofInt IntKind.i64.bits x &&& BitVec.ofInt IntKind.i64.bits 65535).toNat = (x % 18446744073709551616).toNat % 65536 := by
    rw [BitVec.toNat_and]
    have h1 : (BitVec.ofInt IntKind.i64.bits x).toNat = (x % 18446744073709551616).toNat := by
      rw [BitVec.toNat_ofInt]; rfl
    have h2 : (BitVec.ofInt IntKind.i64.bits 65535).toNat = 2 ^ 16 - 1 := by rfl
    rw [h1, h2, Nat.and_two_pow_sub_one_eq_mod]
  simp only [e]
  have hw : ∀ m : Nat, m < 65536 → IntKind.i64.wrap (m : Int) = (m : Int) := by
    intro m hm
    simp [IntKind.wrap, IntKind.bits, IntKind.signed]
    omega
  rw [hw _ (Nat.mod_lt _ (by decide))]; omega
theorem xor_all : ∀ n : Fin 256, Go.bits .xor .u8 (n.val : Int) 0 = (n.val : Int) ∧ Go.bits .xor .u8 (n.val : Int) 255 = 255 - (n.val : Int) := by decide +kernel
theorem xor_0 (b : UInt8) : Go.bits .xor .u8 (b.toNat : Int) 0 = (b.toNat : Int) := (xor_all ⟨b.toNat, b.toNat_lt⟩).1
theorem xor_255 (b : UInt8) : Go.bits .xor .u8 (b.toNat : Int) 255 = 255 - (b.toNat : Int) := (xor_all ⟨b.toNat, b.toNat_lt⟩).2

end Go.Proofs.Ythlehnnmkadigaa.SumMath
