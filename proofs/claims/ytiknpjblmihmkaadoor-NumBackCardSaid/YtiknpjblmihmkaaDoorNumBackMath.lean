/- Numbers written one behind the other, and read back: the plain law. -/
import Derived.Test.YtiknpjblmihmkaaDoorNumBackDef
set_option linter.unusedVariables false
set_option linter.unusedSimpArgs false
open Go Go.Proofs.YtiknpjblmihmkaaDoor.Eng Go.RowKit
namespace Go.Proofs.YtiknpjblmihmkaaDoor.NumRun
def szv (v : Int) : Int := if v % 3 = 0 then 1 else if v % 3 = 1 then 2 else 4
theorem szv_ok (v : Int) : okN (szv v) := by
  unfold szv okN
  split
  · exact .inl rfl
  · split
    · exact .inr (.inl rfl)
    · exact .inr (.inr rfl)
theorem shl_sz {v : Int} (h : 0 ≤ v) : IntKind.wrap .i64 (1 * 2 ^ min (Int.toNat (Int.tmod v 3)) (IntKind.bits .i64)) = szv v := by
  rw [Int.tmod_eq_emod_of_nonneg h]
  unfold szv
  have : v % 3 = 0 ∨ v % 3 = 1 ∨ v % 3 = 2 := by omega
  rcases this with e | e | e <;> rw [e] <;> decide
section
variable (xs ys : List Int) (leny : Nat)
def sz (k : Nat) : Int := if k < leny then szv (ys.getD k 0) else 4
def xv (k : Nat) : Int := if sz ys leny k < 4 then (xs.getD k 0) % 256 ^ (sz ys leny k).toNat else xs.getD k 0
def bs : Nat → List Int
  | 0 => []
  | k + 1 => bs k ++ putL (xv xs ys leny k) (sz ys leny k).toNat
def many (k : Nat) : List AV := (List.range k).map fun j => .i .i64 (sz ys leny j)
end
section
variable {xs ys : List Int} {leny : Nat}
theorem sz_ok (k : Nat) : okN (sz ys leny k) := by
  unfold sz
  split
  · exact szv_ok _
  · exact .inr (.inr rfl)
theorem sz_range (k : Nat) : 1 ≤ sz ys leny k ∧ sz ys leny k ≤ 4 := by rcases sz_ok (ys := ys) (leny := leny) k with e | e | e <;> rw [e] <;> decide
theorem okn_of {n : Int} (h : okN n) : okn n = true := by rcases h with rfl | rfl | rfl <;> rfl
theorem xv_range (hx : ∀ x ∈ xs, 0 ≤ x ∧ x ≤ 4294967295) (k : Nat) : 0 ≤ xv xs ys leny k ∧ xv xs ys leny k < 256 ^ (sz ys leny k).toNat := by
  have h0 : 0 ≤ xs.getD k 0 ∧ xs.getD k 0 ≤ 4294967295 := by
    rw [List.getD_eq_getElem?_getD]
    cases e : xs[k]? with
    | none => simp
    | some x => exact hx x (List.mem_of_getElem? e)
  unfold xv
  generalize xs.getD k 0 = x at *
  rcases sz_ok (ys := ys) (leny := leny) k with e | e | e <;> rw [e]
  · have e2 : (256 : Int) ^ (Int.toNat 1) = 256 := by decide
    rw [e2]; simp; omega
  · have e2 : (256 : Int) ^ (Int.toNat 2) = 65536 := by decide
    rw [e2]; simp; omega
  · have e2 : (256 : Int) ^ (Int.toNat 4) = 4294967296 := by decide
    rw [e2]; simp; omega
theorem xv_good (hx : ∀ x ∈ xs, 0 ≤ x ∧ x ≤ 4294967295) (k : Nat) : nG (xv xs ys leny k) (sz ys leny k) = true := by
  unfold nG
  rw [okn_of (sz_ok k)]
  simp only [Bool.true_and, decide_eq_true_eq]
  exact xv_range hx k
theorem nB_of {x n : Int} (h : nG x n = true) : nB x n = textOf (putL x n.toNat) := by rw [nB, if_pos h]
theorem nB_size {x n : Int} (h : nG x n = true) (hn : 0 ≤ n) : ((nB x n).size : Int) = n := by rw [nB_of h, textOf_size, putL_len]; omega
theorem bs_len (k : Nat) : (bs xs ys leny k).length ≤ 4 * k := by
  induction k with
  | zero => simp [bs]
  | succ k ih =>
    rw [bs, List.length_append, putL_len]
    have := sz_range (ys := ys) (leny := leny) k
    omega
theorem bs_succ_len (k : Nat) : ((bs xs ys leny (k + 1)).length : Int) = (bs xs ys leny k).length + sz ys leny k := by
  rw [bs, List.length_append, putL_len]
  have := sz_range (ys := ys) (leny := leny) k
  omega
theorem bs_split {k len : Nat} (h : k < len) : ∃ r, bs xs ys leny len = bs xs ys leny k ++ (putL (xv xs ys leny k) (sz ys leny k).toNat ++ r) := by
  induction len with
  | zero => omega
  | succ len ih =>
    by_cases e : k = len
    · subst e
      exact ⟨[], by rw [bs, List.append_nil]⟩
    · obtain ⟨r, hr⟩ := ih (by omega)
      exact ⟨r ++ putL (xv xs ys leny len) (sz ys leny len).toNat, by rw [bs, hr]; simp [List.append_assoc]⟩
theorem many_succ (k : Nat) : many ys leny k ++ [.i .i64 (sz ys leny k)] = many ys leny (k + 1) := by
  simp [many, List.range_succ]
theorem many_len (k : Nat) : (many ys leny k).length = k := by simp [many]
theorem many_get {k len : Nat} (h : k < len) : (many ys leny len)[k]? = some (.i .i64 (sz ys leny k)) := by
  simp [many, h]
theorem many_flat (k : Nat) : AV.unders 0 (many ys leny k) = true := unders_map 0 _ (fun _ => rfl) _
theorem acc_put : ∀ (n : Nat) (x : Int), 0 ≤ x → x < 256 ^ n → acc (textOf (putL x n)).data.toList = x
  | 0, x, h0, h1 => by
    have : x = 0 := by simp at h1; omega
    subst this; rfl
  | n + 1, x, h0, h1 => by
    have h1 : x < 256 ^ n * 256 := by rwa [Int.pow_succ] at h1
    have hd : x / 256 < 256 ^ n := by
      generalize (256 : Int) ^ n = p at *
      omega
    rw [putL, textOf_list, List.map_append, ← textOf_list]
    show acc (_ ++ [UInt8.ofNat (x % 256).toNat]) = x
    rw [acc_snoc, acc_put n (x / 256) (by omega) hd]
    have : ((UInt8.ofNat (x % 256).toNat).toNat : Int) = x % 256 := by
      rw [UInt8.toNat_ofNat']; omega
    rw [this]; omega
theorem mid {α : Type} (A B R : List α) : ((A ++ (B ++ R)).take (A.length + B.length)).drop A.length = B := by
  rw [List.drop_take, List.drop_left, Nat.add_sub_cancel_left, List.take_left]
/-- The number at the place where it was written. -/
theorem read_at (hx : ∀ x ∈ xs, 0 ≤ x ∧ x ≤ 4294967295) {k len : Nat} (h : k < len) (b : ByteArray) : gN (textOf (bs xs ys leny len) ++ b) ((bs xs ys leny k).length : Int) (sz ys leny k) = xv xs ys leny k := by
  obtain ⟨r, hr⟩ := bs_split (xs := xs) (ys := ys) (leny := leny) h
  have rg := xv_range (xs := xs) (ys := ys) (leny := leny) hx k
  have sr := sz_range (ys := ys) (leny := leny) k
  unfold gN gX
  have e : (((bs xs ys leny k).length : Int) + sz ys leny k).toNat = (bs xs ys leny k).length + (sz ys leny k).toNat := by omega
  rw [e, Int.toNat_natCast, extract_list, append_list, hr, textOf_list, List.map_append, List.map_append, List.append_assoc, List.append_assoc]
  have := mid ((bs xs ys leny k).map fun n => UInt8.ofNat n.toNat) ((putL (xv xs ys leny k) (sz ys leny k).toNat).map fun n => UInt8.ofNat n.toNat) ((r.map fun n => UInt8.ofNat n.toNat) ++ b.data.toList)
  rw [List.length_map, List.length_map, putL_len] at this
  rw [this, ← textOf_list]
  exact acc_put _ _ rg.1 rg.2
theorem byte_at (s : ByteArray) {k : Nat} (h : k < s.size) : ∃ b : UInt8, s[k]? = some b ∧ gN s k 1 = (b.toNat : Int) := by
  have hl : k < s.data.toList.length := by rw [size_list]; exact h
  refine ⟨s.data.toList[k], by rw [bget, List.getElem?_eq_getElem hl], ?_⟩
  unfold gN gX
  have e : ((k : Int) + 1).toNat = k + 1 := by omega
  rw [e, Int.toNat_natCast, extract_list, List.drop_take, List.drop_eq_getElem_cons hl]
  have : k + 1 - k = 1 := by omega
  rw [this]
  simp [acc]
end

section
variable (xs ys : List Int) (leny len : Nat) (b : ByteArray)
def I1 (m : Nat) : ByteArray × Int ⊕ ByteArray × (Nat × List AV) × Int → Prop
  | .inl q => q.1 = ⟨#[]⟩ ∧ q.2 = 0 ∧ len = m
  | .inr q => ∃ k : Nat, 0 < k ∧ k + m = len ∧ q.1 = textOf (bs xs ys leny k) ∧ k = q.2.1.1 ∧ q.2.1.2 = many ys leny k ∧ q.2.2 = (k : Int)
def I2n (m : Nat) : ByteArray × ByteArray × Int × Int ⊕ ByteArray × (Nat × List AV) × ByteArray × Int × Int → Prop
  | .inl q => q.1 = ⟨#[]⟩ ∧ q.2.1 = ⟨#[]⟩ ++ b ∧ q.2.2.1 = 0 ∧ q.2.2.2 = 0
  | .inr _ => False
def I2r (m : Nat) : ByteArray × ByteArray × Int × Int ⊕ ByteArray × (Nat × List AV) × ByteArray × Int × Int → Prop
  | .inl _ => False
  | .inr q => ∃ k : Nat, k + m = len ∧ q.1 = textOf (bs xs ys leny len) ∧ len = q.2.1.1 ∧ q.2.1.2 = many ys leny len ∧ q.2.2.1 = textOf (bs xs ys leny len) ++ b ∧ q.2.2.2.1 = ((bs xs ys leny k).length : Int) ∧ q.2.2.2.2 = (k : Int)
def I3 (s : ByteArray) (m : Nat) : ByteArray × ByteArray × Int × Int → Prop := fun q => q.1 = s ∧ q.2.1 = s ∧ ∃ k : Nat, k + m = s.size ∧ q.2.2.1 = (k : Int) ∧ q.2.2.2 = (k : Int)
end
theorem gc_flat {J : List Nat} {h h' : Hp} (e : J.map (fun id => h.getD id .dead) = h') (hf : ∀ B ∈ h', ∃ c wr, B = .cells c wr ∧ AV.unders 0 c = true) : gcR J h = h' := by
  subst e
  unfold gcR
  apply List.map_congr_left
  intro id hid
  obtain ⟨c, wr, e, hu⟩ := hf _ (List.mem_map.2 ⟨id, hid, rfl⟩)
  rw [e, reB_flat _ hu]
theorem rest_of (s b : ByteArray) : gY (s ++ b) (s.size : Int) = b := by
  unfold gY
  apply ByteArray.ext
  apply Array.toList_inj.1
  rw [extract_list, ← size_list, ← size_list, append_list, Int.toNat_natCast, List.take_length, List.drop_left]
theorem mod1 : IntKind.wrap .i64 (1 * 2 ^ min (Int.toNat (IntKind.wrap .u64 (IntKind.wrap .i64 (8 * 1)))) (IntKind.bits .i64)) = 256 := by decide
theorem mod2 : IntKind.wrap .i64 (1 * 2 ^ min (Int.toNat (IntKind.wrap .u64 (IntKind.wrap .i64 (8 * 2)))) (IntKind.bits .i64)) = 65536 := by decide
theorem ge0 {n : Int} (h : okN n) : (0 : Int) ≤ IntKind.wrap .u64 (IntKind.wrap .i64 (8 * n)) := by rcases h with rfl | rfl | rfl <;> decide
section
variable {xs ys : List Int} {leny : Nat}
theorem xv1 {k : Nat} {x : Int} (hx : xs.getD k 0 = x) (h0 : 0 ≤ x) (e : sz ys leny k = 1) : Int.tmod x 256 = xv xs ys leny k := by
  unfold xv; rw [e, hx, Int.tmod_eq_emod_of_nonneg h0]; rfl
theorem xv2 {k : Nat} {x : Int} (hx : xs.getD k 0 = x) (h0 : 0 ≤ x) (e : sz ys leny k = 2) : Int.tmod x 65536 = xv xs ys leny k := by
  unfold xv; rw [e, hx, Int.tmod_eq_emod_of_nonneg h0]; rfl
theorem xv4 {k : Nat} {x : Int} (hx : xs.getD k 0 = x) (e : sz ys leny k = 4) : x = xv xs ys leny k := by
  unfold xv; rw [e, hx]; rfl
theorem text_step {k : Nat} {n : Int} (e : sz ys leny k = n) (hg : nG (xv xs ys leny k) n = true) : textOf (bs xs ys leny k) ++ nB (xv xs ys leny k) n = textOf (bs xs ys leny (k + 1)) := by
  rw [nB_of hg, textOf_append, bs, e]
theorem many_step {k : Nat} {n : Int} (e : sz ys leny k = n) : many ys leny k ++ [.i .i64 n] = many ys leny (k + 1) := by rw [← e, many_succ]
end
end Go.Proofs.YtiknpjblmihmkaaDoor.NumRun
