/- Events and their bytes, as lists. -/
import Derived.Test.YtnfbgfmdjaodgaaScriptRd
set_option linter.unusedVariables false
set_option linter.unusedSimpArgs false
open Go Go.Proofs.Ytnfbgfmdjaodgaa.Eng Go.RowKit
namespace Go.Proofs.Ytnfbgfmdjaodgaa.ScriptRun
def ofL (l : List UInt8) : ByteArray := ⟨l.toArray⟩
theorem ofL_list (l : List UInt8) : (ofL l).data.toList = l := by simp [ofL]
theorem ofL_size (l : List UInt8) : (ofL l).size = l.length := by rw [← size_list, ofL_list]
theorem ba_ext {a b : ByteArray} (h : a.data.toList = b.data.toList) : a = b := ByteArray.ext (Array.toList_inj.1 h)
theorem ofL_of (s : ByteArray) : ofL s.data.toList = s := ba_ext (ofL_list _)
def peT (k : Int) (w : Nat) (most y : Int) (l : List UInt8) : Option (Ev × Nat) :=
  if y ≤ most ∧ y + (1 + w : Nat) ≤ l.length then some ((k, 0, ofL ((l.drop (1 + w)).take y.toNat)), 1 + w + y.toNat) else none
/-- The event at the beginning, and how many bytes it has. -/
def pe (l : List UInt8) : Option (Ev × Nat) := match l with
  | [] => none
  | b :: r =>
    if (b.toNat : Int) = 3 then (match r with
      | x1 :: x2 :: x3 :: x4 :: _ => if be4 x1 x2 x3 x4 ≤ 2147483647 then some ((3, be4 x1 x2 x3 x4, ⟨#[]⟩), 5) else none
      | _ => none) else
    if (b.toNat : Int) = 4 then (match r with
      | x1 :: x2 :: _ => peT 4 2 300 (be2 x1 x2) l
      | _ => none) else
    if (b.toNat : Int) = 1 ∨ (b.toNat : Int) = 2 then (match r with
      | x1 :: x2 :: x3 :: _ => peT b.toNat 3 65575 (be3 x1 x2 x3) l
      | _ => none) else none
def mayb (q : Ev × Int × Bool) (a : Int) : Option (Ev × Nat) := if q.2.2 = true then some (q.1, (q.2.1 - a).toNat) else none
theorem mayb_txt (k : Int) (w : Nat) (most y : Int) (s : ByteArray) (hy : 0 ≤ y) (hw : 1 + w ≤ s.size) : mayb (txt k w most y s) 0 = peT k w most y s.data.toList := by
  have hs := size_list s
  unfold txt peT mayb
  rw [hs]
  by_cases c : y ≤ most ∧ y ≤ s.size - (1 + (w : Int))
  · have c' : y ≤ most ∧ y + ((1 + w : Nat) : Int) ≤ (s.size : Int) := ⟨c.1, by omega⟩
    rw [if_pos c, if_pos c']
    have e1 : s.extract (1 + (w : Int)).toNat (1 + (w : Int) + y).toNat = ofL ((s.data.toList.drop (1 + w)).take y.toNat) := by
      apply ba_ext
      rw [extract_list, ofL_list, show (1 + (w : Int) + y).toNat = 1 + w + y.toNat by omega, show (1 + (w : Int)).toNat = 1 + w by omega, List.drop_take, show 1 + w + y.toNat - (1 + w) = y.toNat by omega]
    have e2 : (1 + (w : Int) + y - 0).toNat = 1 + w + y.toNat := by omega
    simp only [if_true, e1, e2]
  · have c' : ¬ (y ≤ most ∧ y + ((1 + w : Nat) : Int) ≤ (s.size : Int)) := fun h => c ⟨h.1, by omega⟩
    rw [if_neg c, if_neg c']; rfl
theorem rdP_pe (s : ByteArray) : mayb (rdP s) 0 = pe s.data.toList := by
  have hs := size_list s
  unfold rdP pe
  generalize hl : s.data.toList = l
  rw [hl] at hs
  match l with
  | [] => rfl
  | b :: r =>
    simp only
    split
    · match r with
      | [] => rfl
      | [x1] => rfl
      | [x1, x2] => rfl
      | [x1, x2, x3] => rfl
      | x1 :: x2 :: x3 :: x4 :: r =>
        rename_i h3
        simp only [mayb, decide_eq_true_eq, h3]; rfl
    split
    · match r with
      | [] => rfl
      | [x1] => rfl
      | x1 :: x2 :: r =>
        rename_i h4
        simp only
        rw [h4, ← hl]
        exact mayb_txt 4 2 300 _ s (be2_r _ _).1 (by rw [← hs]; simp)
    split
    · match r with
      | [] => rfl
      | [x1] => rfl
      | [x1, x2] => rfl
      | x1 :: x2 :: x3 :: r =>
        simp only
        rw [← hl]
        exact mayb_txt _ 3 65575 _ s (be3_r _ _ _).1 (by rw [← hs]; simp)
    · rfl
theorem mayb_txtR (k : Int) (w : Nat) (most y : Int) (s : ByteArray) (a : Nat) (hy : 0 ≤ y) (hw : a + 1 + w ≤ s.size) : mayb (txtR k w most y s a) a = peT k w most y (s.data.toList.drop a) := by
  have hs := size_list s
  unfold txtR peT mayb
  rw [List.length_drop, hs]
  by_cases c : y ≤ most ∧ (a : Int) + 1 + w + y ≤ s.size
  · have c' : y ≤ most ∧ y + ((1 + w : Nat) : Int) ≤ ((s.size - a : Nat) : Int) := ⟨c.1, by omega⟩
    rw [if_pos c, if_pos c']
    have e1 : s.extract ((a : Int) + 1 + (w : Int)).toNat ((a : Int) + 1 + (w : Int) + y).toNat = ofL (((s.data.toList.drop a).drop (1 + w)).take y.toNat) := by
      apply ba_ext
      rw [extract_list, ofL_list, List.drop_drop, show ((a : Int) + 1 + (w : Int) + y).toNat = a + (1 + w) + y.toNat by omega, show ((a : Int) + 1 + (w : Int)).toNat = a + (1 + w) by omega, List.drop_take, show a + (1 + w) + y.toNat - (a + (1 + w)) = y.toNat by omega]
    have e2 : ((a : Int) + 1 + (w : Int) + y - a).toNat = 1 + w + y.toNat := by omega
    simp only [if_true, e1, e2]
  · have c' : ¬ (y ≤ most ∧ y + ((1 + w : Nat) : Int) ≤ ((s.size - a : Nat) : Int)) := fun h => c ⟨h.1, by omega⟩
    rw [if_neg c, if_neg c']; rfl
theorem rdR_pe (s : ByteArray) (a : Nat) (ha : a ≤ s.size) : mayb (rdR (s, a)) a = pe (s.data.toList.drop a) := by
  have hs := size_list s
  unfold rdR pe
  simp only [Int.toNat_natCast]
  generalize hl : s.data.toList.drop a = l
  have hll : l.length + a = s.size := by rw [← hl, List.length_drop]; omega
  match l with
  | [] => rfl
  | b :: r =>
    simp only
    split
    · match r with
      | [] => rfl
      | [x1] => rfl
      | [x1, x2] => rfl
      | [x1, x2, x3] => rfl
      | x1 :: x2 :: x3 :: x4 :: r =>
        rename_i h3
        simp only [mayb, decide_eq_true_eq, h3]
        rw [show ((a : Int) + 1 + 4 - a).toNat = 5 by omega]
    split
    · match r with
      | [] => rfl
      | [x1] => rfl
      | x1 :: x2 :: r =>
        rename_i h4
        simp only
        rw [h4, ← hl]
        exact mayb_txtR 4 2 300 _ s a (be2_r _ _).1 (by rw [← hll]; simp; omega)
    split
    · match r with
      | [] => rfl
      | [x1] => rfl
      | [x1, x2] => rfl
      | x1 :: x2 :: x3 :: r =>
        simp only
        rw [← hl]
        exact mayb_txtR _ 3 65575 _ s a (be3_r _ _ _).1 (by rw [← hll]; simp; omega)
    · rfl
theorem peT_pos {k : Int} {w : Nat} {most y : Int} {l : List UInt8} {e : Ev} {n : Nat} (h0 : 0 ≤ y) (h : peT k w most y l = some (e, n)) : 0 < n ∧ n ≤ l.length := by
  unfold peT at h
  split at h
  · rename_i c
    simp only [Option.some.injEq, Prod.mk.injEq] at h
    omega
  · cases h
theorem pe_pos {l : List UInt8} {e : Ev} {n : Nat} (h : pe l = some (e, n)) : 0 < n ∧ n ≤ l.length := by
  unfold pe at h
  split at h
  · cases h
  · rename_i b r
    split at h
    · split at h
      · split at h
        · simp only [Option.some.injEq, Prod.mk.injEq] at h
          simp; omega
        · cases h
      · cases h
    split at h
    · split at h
      · exact peT_pos (be2_r _ _).1 h
      · cases h
    split at h
    · split at h
      · exact peT_pos (be3_r _ _ _).1 h
      · cases h
    · cases h
/-- What is read of bytes: so many events at most. -/
def decF : Nat → List UInt8 → Nat → List Ev
  | 0, _, _ => []
  | f + 1, l, m => if l = [] ∨ m = 0 then [] else match pe l with
    | some (e, n) => e :: decF f (l.drop n) (m - 1)
    | none => decF f (l.drop 1) m
theorem decF_fuel : ∀ (f g : Nat) (l : List UInt8) (m : Nat), l.length ≤ f → l.length ≤ g → decF f l m = decF g l m
  | 0, 0, l, m, _, _ => rfl
  | 0, g + 1, l, m, h, _ => by
    obtain rfl := List.length_eq_zero_iff.1 (Nat.le_zero.1 h)
    simp [decF]
  | f + 1, 0, l, m, _, h => by
    obtain rfl := List.length_eq_zero_iff.1 (Nat.le_zero.1 h)
    simp [decF]
  | f + 1, g + 1, l, m, h1, h2 => by
    simp only [decF]
    split
    · rfl
    · rename_i c
      have hl : 0 < l.length := List.length_pos_iff.2 fun e => c (.inl e)
      cases hp : pe l with
      | none => simp only; exact decF_fuel f g _ m (by rw [List.length_drop]; omega) (by rw [List.length_drop]; omega)
      | some q =>
        obtain ⟨e, n⟩ := q
        have := pe_pos hp
        simp only
        rw [decF_fuel f g _ (m - 1) (by rw [List.length_drop]; omega) (by rw [List.length_drop]; omega)]
def dec1 (l : List UInt8) (m : Nat) : List Ev := decF l.length l m
theorem dec1_nil (m : Nat) : dec1 [] m = [] := rfl
theorem dec1_zero (l : List UInt8) : dec1 l 0 = [] := by
  unfold dec1
  cases l with
  | nil => rfl
  | cons x l => simp [decF]
theorem dec1_step {l : List UInt8} {m : Nat} (hl : l ≠ []) (hm : m ≠ 0) : dec1 l m = match pe l with
    | some (e, n) => e :: dec1 (l.drop n) (m - 1)
    | none => dec1 (l.drop 1) m := by
  have h0 : 0 < l.length := List.length_pos_iff.2 hl
  unfold dec1
  obtain ⟨f, hf⟩ : ∃ f, l.length = f + 1 := ⟨l.length - 1, by omega⟩
  rw [hf, decF, if_neg (by simp [hl, hm])]
  cases hp : pe l with
  | none => simp only; exact decF_fuel _ _ _ _ (by rw [List.length_drop]; omega) (Nat.le_refl _)
  | some q =>
    obtain ⟨e, n⟩ := q
    have := pe_pos hp
    simp only
    rw [decF_fuel _ _ _ _ (by rw [List.length_drop]; omega) (Nat.le_refl _)]
theorem decF_len : ∀ (f : Nat) (l : List UInt8) (m : Nat), (decF f l m).length ≤ m
  | 0, l, m => Nat.zero_le _
  | f + 1, l, m => by
    simp only [decF]
    split
    · exact Nat.zero_le _
    · rename_i c
      cases hp : pe l with
      | none => exact decF_len f _ m
      | some q =>
        simp only [List.length_cons]
        have := decF_len f (l.drop q.2) (m - 1)
        have : m ≠ 0 := fun e => c (.inr e)
        omega
theorem dec1_len (l : List UInt8) (m : Nat) : (dec1 l m).length ≤ m := decF_len _ _ _
def decode (l : List UInt8) : List Ev := dec1 (l.take 262144) 4096
end Go.Proofs.Ytnfbgfmdjaodgaa.ScriptRun
