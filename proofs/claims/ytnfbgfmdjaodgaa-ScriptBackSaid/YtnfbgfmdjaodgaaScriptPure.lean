/- What is written is read; what is read is written: laws over lists of bytes. -/
import Derived.Test.YtnfbgfmdjaodgaaScriptEnc
set_option linter.unusedVariables false
set_option linter.unusedSimpArgs false
open Go Go.Proofs.Ytnfbgfmdjaodgaa.Eng Go.RowKit
namespace Go.Proofs.Ytnfbgfmdjaodgaa.ScriptRun
def by8 (n : Int) : UInt8 := UInt8.ofNat n.toNat
theorem by8_nat {n : Int} (h0 : 0 ≤ n) (h1 : n < 256) : ((by8 n).toNat : Int) = n := by
  unfold by8
  rw [UInt8.toNat_ofNat']
  omega
theorem by8_of {n : Int} {b : UInt8} (h : n = (b.toNat : Int)) : by8 n = b := by
  apply UInt8.toNat_inj.1
  have hb := byte_lt b
  have := by8_nat (n := n) (by omega) (by omega)
  omega
theorem Lb_list (x : Int) (n : Nat) : (Lb (x, (n : Int))).data.toList = (putL x n).map by8 := by
  rw [Lb, textOf_list, Int.toNat_natCast]; rfl
theorem Lb2 (x : Int) : (Lb (x, 2)).data.toList = [by8 (x / 256 % 256), by8 (x % 256)] := by
  have := Lb_list x 2
  rw [put2] at this; exact this
theorem Lb3 (x : Int) : (Lb (x, 3)).data.toList = [by8 (x / 65536 % 256), by8 (x / 256 % 256), by8 (x % 256)] := by
  have := Lb_list x 3
  rw [put3] at this; exact this
theorem Lb4 (x : Int) : (Lb (x, 4)).data.toList = [by8 (x / 16777216 % 256), by8 (x / 65536 % 256), by8 (x / 256 % 256), by8 (x % 256)] := by
  have := Lb_list x 4
  rw [put4] at this; exact this
theorem be2_put {x : Int} (h0 : 0 ≤ x) (h1 : x < 65536) : be2 (by8 (x / 256 % 256)) (by8 (x % 256)) = x := by
  unfold be2
  rw [by8_nat (by omega) (by omega), by8_nat (by omega) (by omega)]; omega
theorem be3_put {x : Int} (h0 : 0 ≤ x) (h1 : x < 16777216) : be3 (by8 (x / 65536 % 256)) (by8 (x / 256 % 256)) (by8 (x % 256)) = x := by
  unfold be3 be2
  rw [by8_nat (by omega) (by omega), by8_nat (by omega) (by omega), by8_nat (by omega) (by omega)]; omega
theorem be4_put {x : Int} (h0 : 0 ≤ x) (h1 : x < 4294967296) : be4 (by8 (x / 16777216 % 256)) (by8 (x / 65536 % 256)) (by8 (x / 256 % 256)) (by8 (x % 256)) = x := by
  unfold be4 be3 be2
  rw [by8_nat (by omega) (by omega), by8_nat (by omega) (by omega), by8_nat (by omega) (by omega), by8_nat (by omega) (by omega)]; omega
theorem put_be2 (a b : UInt8) : (Lb (be2 a b, 2)).data.toList = [a, b] := by
  have ha := byte_lt a
  have hb := byte_lt b
  rw [Lb2]
  unfold be2
  rw [by8_of (b := a) (by omega), by8_of (b := b) (by omega)]
theorem put_be3 (a b c : UInt8) : (Lb (be3 a b c, 3)).data.toList = [a, b, c] := by
  have ha := byte_lt a
  have hb := byte_lt b
  have hc := byte_lt c
  rw [Lb3]
  unfold be3 be2
  rw [by8_of (b := a) (by omega), by8_of (b := b) (by omega), by8_of (b := c) (by omega)]
theorem put_be4 (a b c d : UInt8) : (Lb (be4 a b c d, 4)).data.toList = [a, b, c, d] := by
  have ha := byte_lt a
  have hb := byte_lt b
  have hc := byte_lt c
  have hd := byte_lt d
  rw [Lb4]
  unfold be4 be3 be2
  rw [by8_of (b := a) (by omega), by8_of (b := b) (by omega), by8_of (b := c) (by omega), by8_of (b := d) (by omega)]
theorem kind_list (k : Int) : (textOf [k]).data.toList = [by8 k] := by rw [textOf_list]; rfl
theorem peT_enc {k : Int} {w : Nat} {most : Int} {t : ByteArray} {hd : List UInt8} {r : List UInt8} (hw : hd.length = 1 + w) (hm : (t.size : Int) ≤ most) : peT k w most t.size (hd ++ t.data.toList ++ r) = some ((k, 0, t), 1 + w + t.size) := by
  have ht := size_list t
  unfold peT
  have c : (t.size : Int) ≤ most ∧ (t.size : Int) + ((1 + w : Nat) : Int) ≤ ((hd ++ t.data.toList ++ r).length : Int) := ⟨hm, by rw [List.length_append, List.length_append, ht, hw]; omega⟩
  rw [if_pos c, Int.toNat_natCast, List.append_assoc, ← hw, List.drop_left, ← ht, List.take_left, ofL_of]
/-- What is written is read. -/
theorem pe_enc {e : Ev} (h : okE e = true) (r : List UInt8) : pe ((bytesE e).data.toList ++ r) = some (e, (bytesE e).size) := by
  obtain ⟨k, n, t⟩ := e
  simp only [okE, decide_eq_true_eq] at h
  have z2 := Lb_size (x := t.size) (n := 2) (by decide)
  have z3 := Lb_size (x := t.size) (n := 3) (by decide)
  have z4 := Lb_size (x := n) (n := 4) (by decide)
  have b1 : ((by8 1).toNat : Int) = 1 := by decide
  have b2 : ((by8 2).toNat : Int) = 2 := by decide
  have b3 : ((by8 3).toNat : Int) = 3 := by decide
  have b4 : ((by8 4).toNat : Int) = 4 := by decide
  rw [bytesE, append_size, append_list, kind_list, textOf_size]
  rcases h with ⟨h | h, h1, h2⟩ | ⟨h, h1, h2, h3⟩ | ⟨h, h1, h2⟩ <;> subst h
  · have e1 : tailE (1, n, t) = Lb (t.size, 3) ++ t := by simp [tailE, h2]
    rw [e1, append_list, Lb3, append_size]
    have := peT_enc (k := 1) (w := 3) (most := 65575) (t := t) (r := r) (hd := [by8 1, by8 ((t.size : Int) / 65536 % 256), by8 ((t.size : Int) / 256 % 256), by8 ((t.size : Int) % 256)]) rfl (by omega)
    simp only [pe, List.cons_append, List.nil_append, b1, Int.reduceEq, if_false, if_true, true_or, be3_put (x := t.size) (by omega) (by omega)] at this ⊢
    rw [this, h1]
    congr 2
    simp; omega
  · have e1 : tailE (2, n, t) = Lb (t.size, 3) ++ t := by simp [tailE, h2]
    rw [e1, append_list, Lb3, append_size]
    have := peT_enc (k := 2) (w := 3) (most := 65575) (t := t) (r := r) (hd := [by8 2, by8 ((t.size : Int) / 65536 % 256), by8 ((t.size : Int) / 256 % 256), by8 ((t.size : Int) % 256)]) rfl (by omega)
    simp only [pe, List.cons_append, List.nil_append, b2, Int.reduceEq, if_false, if_true, or_true, be3_put (x := t.size) (by omega) (by omega)] at this ⊢
    rw [this, h1]
    congr 2
    simp; omega
  · have e1 : tailE (3, n, t) = Lb (n, 4) := by simp [tailE, h1, h2]
    rw [e1, Lb4, h3]
    simp only [pe, List.cons_append, List.nil_append, b3, if_true, be4_put h1 (show n < 4294967296 by omega), h2]
    congr 2
  · have e1 : tailE (4, n, t) = Lb (t.size, 2) ++ t := by simp [tailE, h2]
    rw [e1, append_list, Lb2, append_size]
    have := peT_enc (k := 4) (w := 2) (most := 300) (t := t) (r := r) (hd := [by8 4, by8 ((t.size : Int) / 256 % 256), by8 ((t.size : Int) % 256)]) rfl (by omega)
    simp only [pe, List.cons_append, List.nil_append, b4, Int.reduceEq, if_false, if_true, be2_put (x := t.size) (by omega) (by omega)] at this ⊢
    rw [this, h1]
    congr 2
    simp; omega
theorem peT_some {k : Int} {w : Nat} {most y : Int} {l : List UInt8} {e : Ev} {n : Nat} (h0 : 0 ≤ y) (h : peT k w most y l = some (e, n)) : e = (k, 0, ofL ((l.drop (1 + w)).take y.toNat)) ∧ n = 1 + w + y.toNat ∧ y ≤ most ∧ (e.2.2.size : Int) = y := by
  unfold peT at h
  split at h
  · rename_i c
    simp only [Option.some.injEq, Prod.mk.injEq] at h
    obtain ⟨rfl, rfl⟩ := h
    refine ⟨rfl, rfl, c.1, ?_⟩
    simp only
    rw [ofL_size, List.length_take, List.length_drop]; omega
  · cases h
theorem take_parts {b : UInt8} {xs r : List UInt8} {w : Nat} (hw : xs.length = w) (y : Nat) : (b :: (xs ++ r)).take (1 + w + y) = b :: (xs ++ r.take y) := by
  have : 1 + w + y = (w + y) + 1 := by omega
  rw [this, List.take_succ_cons, List.take_append, hw, List.take_of_length_le (by omega)]
  congr 3
  omega
theorem drop_parts {b : UInt8} {xs r : List UInt8} {w : Nat} (hw : xs.length = w) : (b :: (xs ++ r)).drop (1 + w) = r := by
  rw [Nat.add_comm, List.drop_succ_cons, ← hw, List.drop_left]
/-- What is read is right, and its bytes are those that were read. -/
theorem pe_some {l : List UInt8} {e : Ev} {n : Nat} (h : pe l = some (e, n)) : okE e = true ∧ (bytesE e).data.toList = l.take n := by
  unfold pe at h
  split at h
  · cases h
  · rename_i b r
    have hb := byte_lt b
    split at h
    · rename_i h3
      split at h
      · rename_i x1 x2 x3 x4 r
        have hr := be4_r x1 x2 x3 x4
        split at h
        · rename_i hm
          simp only [Option.some.injEq, Prod.mk.injEq] at h
          obtain ⟨rfl, rfl⟩ := h
          refine ⟨by simp [okE]; omega, ?_⟩
          have e1 : tailE (3, be4 x1 x2 x3 x4, (⟨#[]⟩ : ByteArray)) = Lb (be4 x1 x2 x3 x4, 4) := by simp [tailE, hm]; omega
          rw [bytesE, append_list, kind_list, e1, put_be4, by8_of h3.symm]; rfl
        · cases h
      · cases h
    split at h
    · rename_i h3 h4
      split at h
      · rename_i x1 x2 r
        have hr := be2_r x1 x2
        obtain ⟨he, rfl, hm, hz⟩ := peT_some hr.1 h
        have hd : (b :: x1 :: x2 :: r).drop (1 + 2) = r := drop_parts (xs := [x1, x2]) rfl
        rw [hd] at he
        subst he
        simp only at hz
        refine ⟨by simp [okE]; omega, ?_⟩
        have e1 : tailE (4, 0, ofL (r.take (be2 x1 x2).toNat)) = Lb (be2 x1 x2, 2) ++ ofL (r.take (be2 x1 x2).toNat) := by
          simp only [tailE, Int.reduceEq, if_false, if_true]
          rw [if_pos (by omega), hz]
        rw [bytesE, append_list, kind_list, e1, append_list, put_be2, ofL_list, by8_of h4.symm]
        exact (take_parts (xs := [x1, x2]) rfl _).symm
      · cases h
    split at h
    · rename_i h3 h4 h12
      split at h
      · rename_i x1 x2 x3 r
        have hr := be3_r x1 x2 x3
        obtain ⟨he, rfl, hm, hz⟩ := peT_some hr.1 h
        have hd : (b :: x1 :: x2 :: x3 :: r).drop (1 + 3) = r := drop_parts (xs := [x1, x2, x3]) rfl
        rw [hd] at he
        subst he
        simp only at hz
        refine ⟨by simp [okE]; omega, ?_⟩
        have e1 : tailE ((b.toNat : Int), 0, ofL (r.take (be3 x1 x2 x3).toNat)) = Lb (be3 x1 x2 x3, 3) ++ ofL (r.take (be3 x1 x2 x3).toNat) := by
          simp only [tailE]
          rw [if_neg h3, if_neg h4, if_pos h12, if_pos (by omega), hz]
        rw [bytesE, append_list, kind_list, e1, append_list, put_be3, ofL_list, by8_of rfl]
        exact (take_parts (xs := [x1, x2, x3]) rfl _).symm
      · cases h
    · cases h
/-! lists -/
theorem bytes_ne (e : Ev) (r : List UInt8) : (bytesE e).data.toList ++ r ≠ [] := by
  have := bytes_pos e
  intro h
  have := congrArg List.length h
  rw [List.length_append, size_list, List.length_nil] at this; omega
theorem dec1_cat : ∀ (es : List Ev) (r : List UInt8) (m : Nat), es.all okE = true → es.length ≤ m → dec1 (catB es ++ r) m = es ++ dec1 r (m - es.length)
  | [], r, m, _, _ => by simp [catB]
  | e :: es, r, m, h, hl => by
    simp only [List.all_cons, Bool.and_eq_true] at h
    simp only [List.length_cons] at hl
    rw [catB, List.append_assoc, dec1_step (bytes_ne _ _) (by omega), pe_enc h.1]
    simp only
    rw [← size_list, List.drop_left, dec1_cat es r (m - 1) h.2 (by omega), List.cons_append, List.length_cons]
    congr 3
    omega
theorem decF_zero : ∀ (f : Nat) (l : List UInt8), decF f l 0 = []
  | 0, _ => rfl
  | f + 1, l => by simp [decF]
theorem decF_room : ∀ (f : Nat) (l : List UInt8) (m k : Nat), k ≤ m → (decF f l m).length ≤ k → decF f l k = decF f l m
  | 0, _, _, _, _, _ => rfl
  | f + 1, l, m, k, hk, h => by
    by_cases hm : m = 0
    · have : k = 0 := by omega
      rw [hm, this]
    by_cases hk0 : k = 0
    · subst hk0
      rw [decF_zero]
      exact (List.length_eq_zero_iff.1 (Nat.le_zero.1 h)).symm
    by_cases hl : l = []
    · simp [decF, hl]
    simp only [decF, hl, hm, hk0, or_self, if_false] at h ⊢
    cases hp : pe l with
    | none =>
      rw [hp] at h
      exact decF_room f _ m k hk h
    | some q =>
      rw [hp] at h
      simp only [List.length_cons] at h ⊢
      rw [decF_room f _ (m - 1) (k - 1) (by omega) (by omega)]
theorem dec1_room {l : List UInt8} {m k : Nat} (hk : k ≤ m) (h : (dec1 l m).length ≤ k) : dec1 l k = dec1 l m := decF_room _ _ _ _ hk h
theorem decF_ok : ∀ (f : Nat) (l : List UInt8) (m : Nat), (decF f l m).all okE = true ∧ (catB (decF f l m)).length ≤ l.length
  | 0, l, m => ⟨rfl, Nat.zero_le _⟩
  | f + 1, l, m => by
    simp only [decF]
    split
    · exact ⟨rfl, Nat.zero_le _⟩
    · cases hp : pe l with
      | none =>
        have := decF_ok f (l.drop 1) m
        rw [List.length_drop] at this
        exact ⟨this.1, by have := this.2; simp only; omega⟩
      | some q =>
        obtain ⟨e, n⟩ := q
        have h1 := pe_some hp
        have h2 := pe_pos hp
        have h3 := decF_ok f (l.drop n) (m - 1)
        rw [List.length_drop] at h3
        simp only [List.all_cons, Bool.and_eq_true]
        refine ⟨⟨h1.1, h3.1⟩, ?_⟩
        rw [catB, List.length_append, h1.2, List.length_take]
        have := h3.2
        omega
theorem dec1_ok (l : List UInt8) (m : Nat) : (dec1 l m).all okE = true ∧ (catB (dec1 l m)).length ≤ l.length := decF_ok _ _ _
theorem decode_small {l : List UInt8} (h : l.length ≤ 262144) : decode l = dec1 l 4096 := by unfold decode; rw [List.take_of_length_le h]
theorem decode_len (l : List UInt8) : (decode l).length ≤ 4096 := dec1_len _ _
theorem decode_ok (l : List UInt8) : (decode l).all okE = true ∧ (catB (decode l)).length ≤ l.length ∧ (catB (decode l)).length ≤ 262144 := by
  have := dec1_ok (l.take 262144) 4096
  rw [List.length_take] at this
  exact ⟨this.1, by unfold decode; omega, by unfold decode; omega⟩
/-- What is written is read. -/
theorem decode_enc {l : List Ev} (h : (enc l).2 = 0) : decode (enc l).1 = l ∧ l.all okE = true ∧ l.length ≤ 4096 ∧ (enc l).1 = catB l ∧ (catB l).length ≤ 262144 := by
  unfold enc at h ⊢
  split at h
  · rename_i ha
    split at h
    · simp at h
    · rename_i hn
      have h1 : l.length ≤ 4096 := by omega
      have h2 : (catB l).length ≤ 262144 := by omega
      rw [if_pos ha, if_neg hn]
      refine ⟨?_, ha, h1, rfl, h2⟩
      simp only
      rw [decode_small h2]
      have := dec1_cat l [] 4096 ha h1
      rw [List.append_nil, dec1_nil, List.append_nil] at this
      exact this
  · simp at h
theorem enc_decode (l : List UInt8) : enc (decode l) = (catB (decode l), 0) := by
  have h := decode_ok l
  have h2 := decode_len l
  unfold enc
  rw [if_pos h.1, if_neg (by omega)]
end Go.Proofs.Ytnfbgfmdjaodgaa.ScriptRun
