/- The document's nets, and addresses in them. -/
import Derived.Test.YtfnbbgnknkondaaRulesRf
set_option linter.unusedVariables false
set_option linter.unusedSimpArgs false
open Go Go.Proofs.Ytfnbbgnknkondaa.Eng Go.RowKit
namespace Go.Proofs.Ytfnbbgnknkondaa.RulesRun
theorem empty_beq (s : ByteArray) : (ByteArray.toList s == ByteArray.toList (⟨#[]⟩ : ByteArray)) = (s.size == 0) := by
  rw [list_beq, Bool.eq_iff_iff, beq_iff_eq, decide_eq_true_eq, size_zero]
theorem byte_49 (b : UInt8) : ((b.toNat : Int) == 49) = decide (b = 49) := by
  rw [Bool.eq_iff_iff, beq_iff_eq, decide_eq_true_eq]
  constructor
  · intro h
    exact UInt8.toNat_inj.1 (by have : b.toNat = 49 := by omega
                                rw [this]; rfl)
  · intro h; rw [h]; rfl
theorem run29 {s : ByteArray} (n : Int) (h200 : s.size ≤ 200) : Holds (wpFn P (tcons 30 (ttext bitsS) tnil) noW (head29 s n) 0 Go.Proofs.Try.f29 [.ag [.s s, .i .i64 n]] [] fun v _ => v = .bo (netB s n)) := by
  refine ⟨?_⟩
  rw [vc29]
  refine ⟨s, ⟨rfl⟩, ⟨h200⟩, ?_⟩
  rintro t ⟨rfl⟩
  have hbz := bitsS_size s
  refine ⟨s, ⟨rfl⟩, br_intro (fun he => ⟨n, ⟨rfl⟩, ?_⟩) (fun he => ?_)⟩
  · rw [empty_beq] at he
    have h0 := eq_of_beq he
    unfold netB anyB
    rw [he, Bool.true_and, h0, show (0 == 4 || 0 == 16) = false from rfl, Bool.false_and, Bool.or_false]
  rw [empty_beq] at he
  have hany : anyB s n = false := by rw [anyB, he, Bool.false_and]
  unfold netB
  rw [hany, Bool.false_or]
  refine ⟨fun t => t = bitsS s ∧ (s.size = 4 ∨ s.size = 16) ∧ 0 ≤ n ∧ n ≤ 8 * s.size, ?_, ?_⟩
  · have no (h : ¬((s.size = 4 ∨ s.size = 16) ∧ 0 ≤ n ∧ n ≤ 8 * s.size)) : AV.bo false = .bo ((s.size == 4 || s.size == 16) && (decide (0 ≤ n ∧ n ≤ 8 * s.size) && (List.range (8 * s.size)).all fun j => decide (n ≤ (j : Int) → bitS s j = 0))) := by
      congr 1
      symm
      rw [Bool.eq_false_iff]
      intro t
      simp only [Bool.and_eq_true, Bool.or_eq_true, beq_iff_eq, decide_eq_true_eq] at t
      exact h ⟨t.1, t.2.1⟩
    refine ⟨s, ⟨rfl⟩, br_intro (fun h4 => ⟨s, ⟨rfl⟩, br_intro (fun h16 => no fun t => ?_) (fun h16 => ⟨n, ⟨rfl⟩, br_intro (fun h0 => no fun t => ?_) (fun h0 => ⟨n, ⟨rfl⟩, br_intro (fun h1 => no fun t => ?_) (fun h1 => ⟨Wk.refl _ _, rfl, ?_⟩)⟩)⟩)⟩) (fun h4 => ⟨n, ⟨rfl⟩, br_intro (fun h0 => no fun t => ?_) (fun h0 => ⟨n, ⟨rfl⟩, br_intro (fun h1 => no fun t => ?_) (fun h1 => ⟨Wk.refl _ _, rfl, ?_⟩)⟩)⟩)⟩
    all_goals
      simp only [bne_iff_ne, ne_eq, bne_eq_false_iff_eq, decide_eq_true_eq, decide_eq_false_iff_not, hbz] at *
      omega
  · rintro _ ⟨rfl, hs, h0, h1⟩
    have e1 : (s.size == 4 || s.size == 16) = true := by simpa using hs
    rw [e1, Bool.true_and, decide_eq_true (⟨h0, h1⟩ : 0 ≤ n ∧ n ≤ 8 * s.size), Bool.true_and]
    refine ⟨n, ⟨rfl⟩, Wk.refl _ _, fun m q => ∃ k : Nat, q.1 = bitsS s ∧ q.2 = (k : Int) ∧ n ≤ k ∧ (k : Int) + m = 8 * s.size ∧ ∀ j : Nat, n ≤ j → j < k → bitS s j = 0, (8 * s.size - n).toNat, ⟨n.toNat, rfl, by simp only; omega, by omega, by omega, fun j g1 g2 => by omega⟩, ?_⟩
    rintro ⟨t, i⟩ m ⟨k, f1, f2, hnk, hk, hall⟩
    simp only at f1 f2
    subst f1 f2
    refine br_intro (fun hi => ?_) (fun hi => ?_)
    · simp only [decide_eq_true_eq, hbz] at hi
      have hkz : k < 8 * s.size := by omega
      refine ⟨⟨Int.natCast_nonneg _⟩, chrB (byteAt s (k / 8)) (k % 8), ⟨by simp only [Int.toNat_natCast]; rw [bget, bitsS_get hkz]⟩, ?_⟩
      rw [byte_49]
      refine br_intro (fun hb => ?_) (fun hb => ⟨Wk.refl _ _, m - 1, ⟨by omega⟩, k + 1, rfl, i64w (x := (k : Int) + 1) (by omega) (by omega), by omega, by omega, fun j g1 g2 => ?_⟩)
      · have hb := chr_one.1 (of_decide_eq_true hb)
        congr 1
        symm
        rw [Bool.eq_false_iff]
        intro t
        have := of_decide_eq_true (List.all_eq_true.1 t k (List.mem_range.2 (by omega))) hnk
        omega
      · rcases Nat.lt_or_ge j k with h | h
        · exact hall j g1 h
        · obtain rfl : j = k := by omega
          have hb := of_decide_eq_false hb
          rcases bitS_01 s j with g | g
          · exact g
          · exact absurd (chr_one.2 g) hb
    · simp only [decide_eq_false_iff_not, hbz] at hi
      congr 1
      symm
      exact List.all_eq_true.2 fun j hj => decide_eq_true fun hn => hall j hn (by have := List.mem_range.1 hj; omega)
/-- Two texts of bits, cut alike, are the same just if the bits are. -/
theorem cut_same {s a : ByteArray} {n : Int} (h0 : 0 ≤ n) (hs : n ≤ 8 * s.size) (ha : n ≤ 8 * a.size) : (ByteArray.toList (ByteArray.extract (bitsS a) 0 n.toNat) == ByteArray.toList (ByteArray.extract (bitsS s) 0 n.toNat)) = (List.range n.toNat).all fun j => bitS s j == bitS a j := by
  rw [list_beq, Bool.eq_iff_iff, decide_eq_true_eq, List.all_eq_true]
  constructor
  · intro h j hj
    have hj := List.mem_range.1 hj
    have e := congrArg (fun t : ByteArray => t.data.toList[j]?) h
    rw [extract_list, extract_list, List.drop_zero, List.drop_zero, List.getElem?_take_of_lt hj, List.getElem?_take_of_lt hj, bitsS_get (by omega), bitsS_get (by omega)] at e
    have e := Option.some.inj e
    rw [beq_iff_eq]
    rcases bitS_01 s j with g | g
    · rcases bitS_01 a j with g' | g'
      · rw [g, g']
      · have := chr_one.2 g'
        rw [e] at this
        have := chr_one.1 this
        omega
    · have := chr_one.2 g
      rw [← e] at this
      rw [g, chr_one.1 this]
  · intro h
    apply ByteArray.ext
    apply Array.toList_inj.1
    rw [extract_list, extract_list, List.drop_zero, List.drop_zero]
    apply List.ext_getElem?
    intro j
    by_cases hj : j < n.toNat
    · rw [List.getElem?_take_of_lt hj, List.getElem?_take_of_lt hj, bitsS_get (by omega), bitsS_get (by omega)]
      have := h j (List.mem_range.2 hj)
      rw [beq_iff_eq] at this
      congr 1
      unfold chrB
      have b1 := chr_one (s := s) (j := j)
      have b2 := chr_one (s := a) (j := j)
      unfold chrB at b1 b2
      by_cases g : bitS s j = 1
      · rw [b1.2 g, b2.2 (by omega)]
      · have g' : ¬ bitS a j = 1 := by omega
        by_cases c1 : byteAt s (j / 8) / 2 ^ (7 - j % 8) % 2 = 1
        · rw [if_pos c1] at b1; exact absurd (b1.1 rfl) g
        · by_cases c2 : byteAt a (j / 8) / 2 ^ (7 - j % 8) % 2 = 1
          · rw [if_pos c2] at b2; exact absurd (b2.1 rfl) g'
          · rw [if_neg c1, if_neg c2]
    · rw [List.getElem?_eq_none (by rw [List.length_take]; omega), List.getElem?_eq_none (by rw [List.length_take]; omega)]
theorem run13 {s a : ByteArray} (n : Int) (h200 : s.size ≤ 200) (a200 : a.size ≤ 200) : Holds (wpFn P (T13 bitsS netB) W13 (head13 s n a) 0 Go.Proofs.Try.f13 [.ag [.s s, .i .i64 n], .s a] [] fun v _ => v = .bo (inB s n a)) := by
  refine ⟨?_⟩
  rw [vc13]
  unfold inB
  refine ⟨fun _ => netB s n = true ∧ (a.size = 4 ∨ a.size = 16), ⟨s, n, ⟨rfl⟩, ⟨h200⟩, ?_⟩, ?_⟩
  · rintro b ⟨hb⟩
    rw [hb]
    refine br_intro (fun h => by rw [Bool.not_eq_true'] at h; rw [h, Bool.false_and]) (fun h => ?_)
    have h : b = true := by simpa using h
    subst h
    refine br_intro (fun h4 => br_intro (fun h16 => ?_) (fun h16 => ⟨Wk.refl _ _, rfl, ?_⟩)) (fun h4 => ⟨Wk.refl _ _, rfl, ?_⟩)
    · simp only [bne_iff_ne, ne_eq] at h4 h16
      have e : (a.size == 4 || a.size == 16) = false := by
        rw [Bool.eq_false_iff]
        intro t
        simp only [Bool.or_eq_true, beq_iff_eq] at t
        omega
      rw [e, Bool.false_and, Bool.and_false]
    · simp only [bne_iff_ne, ne_eq, bne_eq_false_iff_eq] at h4 h16
      omega
    · simp only [bne_eq_false_iff_eq] at h4
      omega
  · rintro _ ⟨hn, ha⟩
    have e1 : (a.size == 4 || a.size == 16) = true := by simpa using ha
    have hn' := hn
    rw [hn, e1, Bool.true_and, Bool.true_and]
    unfold netB anyB at hn'
    simp only [Bool.and_eq_true, Bool.or_eq_true, beq_iff_eq, decide_eq_true_eq] at hn'
    refine ⟨s, ⟨rfl⟩, br_intro (fun he => ?_) (fun he => ?_)⟩
    · rw [empty_beq] at he
      have h0 := eq_of_beq he
      have n0 : n = 0 := by
        rcases hn' with h | h
        · exact h.2
        · omega
      rw [anyB, he, n0]; rfl
    · rw [empty_beq] at he
      have hany : anyB s n = false := by rw [anyB, he, Bool.false_and]
      rw [hany, Bool.false_or]
      have hs0 : s.size ≠ 0 := by
        intro t
        rw [t] at he
        cases he
      refine ⟨s, ⟨rfl⟩, br_intro (fun hz => ?_) (fun hz => ?_)⟩
      · rw [beq_iff_eq] at hz
        have hz : a.size = s.size := by omega
        have hb : 0 ≤ n ∧ n ≤ 8 * (s.size : Int) := by
          rcases hn' with h | h
          · omega
          · exact h.2.1
        have eb := bitsS_size a
        have ec := bitsS_size s
        refine ⟨n, ⟨rfl⟩, s, ⟨rfl⟩, n, ⟨rfl⟩, ⟨a200⟩, ?_⟩
        rintro t ⟨rfl⟩
        refine ⟨⟨by omega, by omega⟩, ⟨h200⟩, ?_⟩
        rintro t ⟨rfl⟩
        refine ⟨⟨by omega, by omega⟩, ?_⟩
        rw [cut_same hb.1 hb.2 (by omega), hz, beq_self_eq_true, Bool.true_and]
      · have : (a.size == s.size) = false := by
          rw [Bool.eq_false_iff]
          intro t
          rw [beq_iff_eq] at t
          rw [t, beq_self_eq_true] at hz
          cases hz
        rw [this, Bool.false_and]
end Go.Proofs.Ytfnbbgnknkondaa.RulesRun
