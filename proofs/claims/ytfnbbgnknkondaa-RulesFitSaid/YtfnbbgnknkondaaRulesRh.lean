/- The document's Right and Fits. -/
import Derived.Test.YtfnbbgnknkondaaRulesRg
set_option linter.unusedVariables false
set_option linter.unusedSimpArgs false
open Go Go.Proofs.Ytfnbbgnknkondaa.Eng Go.RowKit
namespace Go.Proofs.Ytfnbbgnknkondaa.RulesRun
theorem side_iff {sd : Int} {a b : Nat} : sideB sd a b = true ↔ (sd = 0 ∧ (a = 0 ∨ b = 0 ∨ a = b)) ∨ (sd = 4 ∧ (a = 0 ∨ a = 4) ∧ (b = 0 ∨ b = 4)) ∨ (sd = 6 ∧ (a = 0 ∨ a = 16) ∧ (b = 0 ∨ b = 16)) := by
  unfold sideB
  split
  · rename_i h
    simp only [Bool.or_eq_true, beq_iff_eq]
    omega
  · split
    · simp only [Bool.or_eq_true, Bool.and_eq_true, beq_iff_eq]
      omega
    · split
      · simp only [Bool.or_eq_true, Bool.and_eq_true, beq_iff_eq]
        omega
      · simp only [Bool.false_eq_true, false_iff]
        omega
theorem right_iff {r : RuleV} : rightB r = true ↔ netB r.fs r.fn = true ∧ netB r.ts r.tn = true ∧ (r.fl ≥ 0 ∧ r.fl ≤ r.fh ∧ r.fh ≤ 65535) ∧ (r.tl ≥ 0 ∧ r.tl ≤ r.th ∧ r.th ≤ 65535) ∧ ¬ r.pr < 0 ∧ ¬ r.pr > 255 ∧ sideB r.sd r.fs.size r.ts.size = true := by
  unfold rightB portsB
  simp only [Bool.and_eq_true, decide_eq_true_eq, Bool.not_eq_true', decide_eq_false_iff_not]
set_option maxRecDepth 100000 in
theorem run15 (r : RuleV) (hf : r.fs.size ≤ 200) (ht : r.ts.size ≤ 200) : Holds (wpFn P (T15 netB) noW noL 0 Go.Proofs.Try.f15 [mkR r] [] fun x _ => x = .bo (rightB r)) := by
  refine ⟨?_⟩
  obtain ⟨r0, r1, r2, r3, r4, r5, r6, r7, r8, r9, r10⟩ := r
  unfold mkR
  rw [vc15]
  simp only at hf ht
  simp only [empty_beq]
  refine ⟨r2, r3, ⟨rfl⟩, ⟨hf⟩, ?_⟩
  rintro b ⟨hb⟩
  refine br_intro (fun h => ?_) (fun h => ?_)
  · congr 1; symm; rw [Bool.eq_false_iff]; intro t
    have t := (right_iff.1 t).1
    simp only at t
    rw [hb] at t; rw [t] at h; cases h
  obtain rfl : b = true := by simpa using h
  refine ⟨r4, r5, ⟨rfl⟩, ⟨ht⟩, ?_⟩
  rintro b ⟨hc⟩
  refine br_intro (fun h => ?_) (fun h => ?_)
  · congr 1; symm; rw [Bool.eq_false_iff]; intro t
    have t := (right_iff.1 t).2.1
    simp only at t
    rw [hc] at t; rw [t] at h; cases h
  obtain rfl : b = true := by simpa using h
  refine ⟨_, ⟨rfl⟩, br_intro (fun q0 => (by congr 1; symm; rw [Bool.eq_false_iff]; intro t; have t := right_iff.1 t; simp only [decide_eq_true_eq, decide_eq_false_iff_not] at *; omega)) (fun q0 => ⟨_, ⟨rfl⟩, br_intro (fun q1 => (by congr 1; symm; rw [Bool.eq_false_iff]; intro t; have t := right_iff.1 t; simp only [decide_eq_true_eq, decide_eq_false_iff_not] at *; omega)) (fun q1 => ⟨_, ⟨rfl⟩, br_intro (fun q2 => (by congr 1; symm; rw [Bool.eq_false_iff]; intro t; have t := right_iff.1 t; simp only [decide_eq_true_eq, decide_eq_false_iff_not] at *; omega)) (fun q2 => ⟨_, ⟨rfl⟩, _, ⟨rfl⟩, br_intro (fun q3 => (by congr 1; symm; rw [Bool.eq_false_iff]; intro t; have t := right_iff.1 t; simp only [decide_eq_true_eq, decide_eq_false_iff_not] at *; omega)) (fun q3 => ⟨_, ⟨rfl⟩, br_intro (fun q4 => (by congr 1; symm; rw [Bool.eq_false_iff]; intro t; have t := right_iff.1 t; simp only [decide_eq_true_eq, decide_eq_false_iff_not] at *; omega)) (fun q4 => ⟨_, ⟨rfl⟩, br_intro (fun q5 => (by congr 1; symm; rw [Bool.eq_false_iff]; intro t; have t := right_iff.1 t; simp only [decide_eq_true_eq, decide_eq_false_iff_not] at *; omega)) (fun q5 => ⟨_, ⟨rfl⟩, _, ⟨rfl⟩, br_intro (fun q6 => (by congr 1; symm; rw [Bool.eq_false_iff]; intro t; have t := right_iff.1 t; simp only [decide_eq_true_eq, decide_eq_false_iff_not] at *; omega)) (fun q6 => ⟨_, ⟨rfl⟩, br_intro (fun q7 => (by congr 1; symm; rw [Bool.eq_false_iff]; intro t; have t := right_iff.1 t; simp only [decide_eq_true_eq, decide_eq_false_iff_not] at *; omega)) (fun q7 => ?_)⟩)⟩)⟩)⟩)⟩)⟩)⟩)⟩
  have e : rightB ⟨r0, r1, r2, r3, r4, r5, r6, r7, r8, r9, r10⟩ = sideB r0 r2.size r4.size := by
    rw [Bool.eq_iff_iff, right_iff]
    simp only [hb, hc, true_and]
    simp only [decide_eq_false_iff_not] at q0 q1 q2 q3 q4 q5 q6 q7
    constructor
    · rintro ⟨_, _, _, _, h⟩; exact h
    · intro h; exact ⟨by omega, by omega, q0, q1, h⟩
  rw [e]
  clear e q0 q1 q2 q3 q4 q5 q6 q7 hb hc h
  exact ⟨_, ⟨rfl⟩, br_intro (fun s0 => ⟨_, ⟨rfl⟩, br_intro (fun g1 => ⟨_, ⟨rfl⟩, _, ⟨rfl⟩, br_intro (fun g2 => ⟨_, ⟨rfl⟩, br_intro (fun g3 => (by congr 1; rw [Bool.eq_iff_iff, side_iff]; simp only [Bool.not_eq_true', Bool.not_eq_false', Bool.not_eq_eq_eq_not, Bool.not_true, Bool.not_false, beq_iff_eq, beq_eq_false_iff_ne, ne_eq, Bool.false_eq_true, true_iff, false_iff, bne_iff_ne, bne_eq_false_iff_eq] at *; first | omega | simp_all)) (fun g3 => ⟨_, ⟨rfl⟩, (by congr 1; rw [Bool.eq_iff_iff, side_iff]; simp only [Bool.not_eq_true', Bool.not_eq_false', Bool.not_eq_eq_eq_not, Bool.not_true, Bool.not_false, beq_iff_eq, beq_eq_false_iff_ne, ne_eq, Bool.false_eq_true, true_iff, false_iff, bne_iff_ne, bne_eq_false_iff_eq] at *; first | omega | simp_all)⟩)⟩) (fun g2 => ⟨_, ⟨rfl⟩, br_intro (fun g4 => ⟨_, ⟨rfl⟩, br_intro (fun g5 => (by congr 1; rw [Bool.eq_iff_iff, side_iff]; simp only [Bool.not_eq_true', Bool.not_eq_false', Bool.not_eq_eq_eq_not, Bool.not_true, Bool.not_false, beq_iff_eq, beq_eq_false_iff_ne, ne_eq, Bool.false_eq_true, true_iff, false_iff, bne_iff_ne, bne_eq_false_iff_eq] at *; first | omega | simp_all)) (fun g5 => ⟨_, ⟨rfl⟩, (by congr 1; rw [Bool.eq_iff_iff, side_iff]; simp only [Bool.not_eq_true', Bool.not_eq_false', Bool.not_eq_eq_eq_not, Bool.not_true, Bool.not_false, beq_iff_eq, beq_eq_false_iff_ne, ne_eq, Bool.false_eq_true, true_iff, false_iff, bne_iff_ne, bne_eq_false_iff_eq] at *; first | omega | simp_all)⟩)⟩) (fun g4 => (by congr 1; rw [Bool.eq_iff_iff, side_iff]; simp only [Bool.not_eq_true', Bool.not_eq_false', Bool.not_eq_eq_eq_not, Bool.not_true, Bool.not_false, beq_iff_eq, beq_eq_false_iff_ne, ne_eq, Bool.false_eq_true, true_iff, false_iff, bne_iff_ne, bne_eq_false_iff_eq] at *; first | omega | simp_all))⟩)⟩) (fun g1 => ⟨_, ⟨rfl⟩, _, ⟨rfl⟩, br_intro (fun g6 => ⟨_, ⟨rfl⟩, br_intro (fun g7 => (by congr 1; rw [Bool.eq_iff_iff, side_iff]; simp only [Bool.not_eq_true', Bool.not_eq_false', Bool.not_eq_eq_eq_not, Bool.not_true, Bool.not_false, beq_iff_eq, beq_eq_false_iff_ne, ne_eq, Bool.false_eq_true, true_iff, false_iff, bne_iff_ne, bne_eq_false_iff_eq] at *; first | omega | simp_all)) (fun g7 => ⟨_, ⟨rfl⟩, (by congr 1; rw [Bool.eq_iff_iff, side_iff]; simp only [Bool.not_eq_true', Bool.not_eq_false', Bool.not_eq_eq_eq_not, Bool.not_true, Bool.not_false, beq_iff_eq, beq_eq_false_iff_ne, ne_eq, Bool.false_eq_true, true_iff, false_iff, bne_iff_ne, bne_eq_false_iff_eq] at *; first | omega | simp_all)⟩)⟩) (fun g6 => ⟨_, ⟨rfl⟩, br_intro (fun g8 => ⟨_, ⟨rfl⟩, br_intro (fun g9 => (by congr 1; rw [Bool.eq_iff_iff, side_iff]; simp only [Bool.not_eq_true', Bool.not_eq_false', Bool.not_eq_eq_eq_not, Bool.not_true, Bool.not_false, beq_iff_eq, beq_eq_false_iff_ne, ne_eq, Bool.false_eq_true, true_iff, false_iff, bne_iff_ne, bne_eq_false_iff_eq] at *; first | omega | simp_all)) (fun g9 => ⟨_, ⟨rfl⟩, (by congr 1; rw [Bool.eq_iff_iff, side_iff]; simp only [Bool.not_eq_true', Bool.not_eq_false', Bool.not_eq_eq_eq_not, Bool.not_true, Bool.not_false, beq_iff_eq, beq_eq_false_iff_ne, ne_eq, Bool.false_eq_true, true_iff, false_iff, bne_iff_ne, bne_eq_false_iff_eq] at *; first | omega | simp_all)⟩)⟩) (fun g8 => (by congr 1; rw [Bool.eq_iff_iff, side_iff]; simp only [Bool.not_eq_true', Bool.not_eq_false', Bool.not_eq_eq_eq_not, Bool.not_true, Bool.not_false, beq_iff_eq, beq_eq_false_iff_ne, ne_eq, Bool.false_eq_true, true_iff, false_iff, bne_iff_ne, bne_eq_false_iff_eq] at *; first | omega | simp_all))⟩)⟩)⟩) (fun s0 => br_intro (fun s4 => ⟨_, ⟨rfl⟩, br_intro (fun g10 => ⟨_, ⟨rfl⟩, br_intro (fun g11 => (by congr 1; rw [Bool.eq_iff_iff, side_iff]; simp only [Bool.not_eq_true', Bool.not_eq_false', Bool.not_eq_eq_eq_not, Bool.not_true, Bool.not_false, beq_iff_eq, beq_eq_false_iff_ne, ne_eq, Bool.false_eq_true, true_iff, false_iff, bne_iff_ne, bne_eq_false_iff_eq] at *; first | omega | simp_all)) (fun g11 => ⟨_, ⟨rfl⟩, (by congr 1; rw [Bool.eq_iff_iff, side_iff]; simp only [Bool.not_eq_true', Bool.not_eq_false', Bool.not_eq_eq_eq_not, Bool.not_true, Bool.not_false, beq_iff_eq, beq_eq_false_iff_ne, ne_eq, Bool.false_eq_true, true_iff, false_iff, bne_iff_ne, bne_eq_false_iff_eq] at *; first | omega | simp_all)⟩)⟩) (fun g10 => ⟨_, ⟨rfl⟩, br_intro (fun g12 => ⟨_, ⟨rfl⟩, br_intro (fun g13 => (by congr 1; rw [Bool.eq_iff_iff, side_iff]; simp only [Bool.not_eq_true', Bool.not_eq_false', Bool.not_eq_eq_eq_not, Bool.not_true, Bool.not_false, beq_iff_eq, beq_eq_false_iff_ne, ne_eq, Bool.false_eq_true, true_iff, false_iff, bne_iff_ne, bne_eq_false_iff_eq] at *; first | omega | simp_all)) (fun g13 => ⟨_, ⟨rfl⟩, (by congr 1; rw [Bool.eq_iff_iff, side_iff]; simp only [Bool.not_eq_true', Bool.not_eq_false', Bool.not_eq_eq_eq_not, Bool.not_true, Bool.not_false, beq_iff_eq, beq_eq_false_iff_ne, ne_eq, Bool.false_eq_true, true_iff, false_iff, bne_iff_ne, bne_eq_false_iff_eq] at *; first | omega | simp_all)⟩)⟩) (fun g12 => (by congr 1; rw [Bool.eq_iff_iff, side_iff]; simp only [Bool.not_eq_true', Bool.not_eq_false', Bool.not_eq_eq_eq_not, Bool.not_true, Bool.not_false, beq_iff_eq, beq_eq_false_iff_ne, ne_eq, Bool.false_eq_true, true_iff, false_iff, bne_iff_ne, bne_eq_false_iff_eq] at *; first | omega | simp_all))⟩)⟩) (fun s4 => br_intro (fun s6 => ⟨_, ⟨rfl⟩, br_intro (fun g14 => ⟨_, ⟨rfl⟩, br_intro (fun g15 => (by congr 1; rw [Bool.eq_iff_iff, side_iff]; simp only [Bool.not_eq_true', Bool.not_eq_false', Bool.not_eq_eq_eq_not, Bool.not_true, Bool.not_false, beq_iff_eq, beq_eq_false_iff_ne, ne_eq, Bool.false_eq_true, true_iff, false_iff, bne_iff_ne, bne_eq_false_iff_eq] at *; first | omega | simp_all)) (fun g15 => ⟨_, ⟨rfl⟩, (by congr 1; rw [Bool.eq_iff_iff, side_iff]; simp only [Bool.not_eq_true', Bool.not_eq_false', Bool.not_eq_eq_eq_not, Bool.not_true, Bool.not_false, beq_iff_eq, beq_eq_false_iff_ne, ne_eq, Bool.false_eq_true, true_iff, false_iff, bne_iff_ne, bne_eq_false_iff_eq] at *; first | omega | simp_all)⟩)⟩) (fun g14 => ⟨_, ⟨rfl⟩, br_intro (fun g16 => ⟨_, ⟨rfl⟩, br_intro (fun g17 => (by congr 1; rw [Bool.eq_iff_iff, side_iff]; simp only [Bool.not_eq_true', Bool.not_eq_false', Bool.not_eq_eq_eq_not, Bool.not_true, Bool.not_false, beq_iff_eq, beq_eq_false_iff_ne, ne_eq, Bool.false_eq_true, true_iff, false_iff, bne_iff_ne, bne_eq_false_iff_eq] at *; first | omega | simp_all)) (fun g17 => ⟨_, ⟨rfl⟩, (by congr 1; rw [Bool.eq_iff_iff, side_iff]; simp only [Bool.not_eq_true', Bool.not_eq_false', Bool.not_eq_eq_eq_not, Bool.not_true, Bool.not_false, beq_iff_eq, beq_eq_false_iff_ne, ne_eq, Bool.false_eq_true, true_iff, false_iff, bne_iff_ne, bne_eq_false_iff_eq] at *; first | omega | simp_all)⟩)⟩) (fun g16 => (by congr 1; rw [Bool.eq_iff_iff, side_iff]; simp only [Bool.not_eq_true', Bool.not_eq_false', Bool.not_eq_eq_eq_not, Bool.not_true, Bool.not_false, beq_iff_eq, beq_eq_false_iff_ne, ne_eq, Bool.false_eq_true, true_iff, false_iff, bne_iff_ne, bne_eq_false_iff_eq] at *; first | omega | simp_all))⟩)⟩) (fun s6 => (by congr 1; rw [Bool.eq_iff_iff, side_iff]; simp only [Bool.not_eq_true', Bool.not_eq_false', Bool.not_eq_eq_eq_not, Bool.not_true, Bool.not_false, beq_iff_eq, beq_eq_false_iff_ne, ne_eq, Bool.false_eq_true, true_iff, false_iff, bne_iff_ne, bne_eq_false_iff_eq] at *; first | omega | simp_all))))⟩
set_option maxRecDepth 100000 in
theorem run17 (r : RuleV) (v : ViewV) (hf : r.fs.size ≤ 200) (ht : r.ts.size ≤ 200) (hvf : v.f.size ≤ 200) (hvt : v.t.size ≤ 200) : Holds (wpFn P (T17 rightB inB portB) noW noL 0 Go.Proofs.Try.f17 [mkR r, mkV v] [] fun x _ => x = .bo (fitsB r v)) := by
  refine ⟨?_⟩
  obtain ⟨r0, r1, r2, r3, r4, r5, r6, r7, r8, r9, r10⟩ := r
  obtain ⟨v0, v1, v2, v3, v4, v5⟩ := v
  unfold mkR mkV
  rw [vc17]
  refine ⟨_, _, _, _, _, _, _, _, _, _, _, ⟨rfl⟩, ⟨⟨hf, ht⟩⟩, ?_⟩
  rintro b ⟨hG⟩
  cases b
  · rw [Bool.not_false, br_true]
    simp [fitsB, hG]
  · rw [Bool.not_true, br_false]
    refine ⟨r0, ⟨rfl⟩, br_intro (fun h0' => ⟨r0, ⟨rfl⟩, v0, ⟨rfl⟩, br_intro (fun h0n => ?_) (fun h0n => ?_)⟩) (fun h0 => ?_)⟩
    · have h0' : r0 ≠ 0 := by simpa using h0'
      have h0n : r0 ≠ v0 := by simpa using h0n
      simp [fitsB, hG, h0', h0n]
    · have h0n : r0 = v0 := by simpa using h0n
      refine ⟨r1, ⟨rfl⟩, br_intro (fun h1' => ⟨r1, ⟨rfl⟩, v1, ⟨rfl⟩, br_intro (fun h1n => ?_) (fun h1n => ?_)⟩) (fun h1 => ?_)⟩
      · have h1' : r1 ≠ 0 := by simpa using h1'
        have h1n : r1 ≠ v1 := by simpa using h1n
        simp [fitsB, hG, h0n, h1', h1n]
      · have h1n : r1 = v1 := by simpa using h1n
        refine ⟨_, _, ⟨rfl⟩, _, ⟨rfl⟩, ⟨⟨hf, hvf⟩⟩, ?_⟩
        rintro b ⟨h3⟩
        cases b
        · rw [br_false]
          simp [fitsB, hG, h0n, h1n, h3]
        · rw [br_true]
          refine ⟨_, _, ⟨rfl⟩, _, ⟨rfl⟩, ⟨⟨ht, hvt⟩⟩, ?_⟩
          rintro b ⟨h4⟩
          cases b
          · rw [br_false]
            simp [fitsB, hG, h0n, h1n, h3, h4]
          · rw [br_true]
            refine ⟨_, ⟨rfl⟩, _, ⟨rfl⟩, _, ⟨rfl⟩, ?_⟩
            rintro b ⟨h5⟩
            cases b
            · rw [br_false]
              simp [fitsB, hG, h0n, h1n, h3, h4, h5]
            · rw [br_true]
              refine ⟨_, ⟨rfl⟩, _, ⟨rfl⟩, _, ⟨rfl⟩, ?_⟩
              rintro b ⟨h6⟩
              simp only at hG h3 h4 h5 h6
              subst h0n h1n
              simp [fitsB, hG, h3, h4, h5, h6]
      · have h1 : r1 = 0 := by simpa using h1
        refine ⟨_, _, ⟨rfl⟩, _, ⟨rfl⟩, ⟨⟨hf, hvf⟩⟩, ?_⟩
        rintro b ⟨h3⟩
        cases b
        · rw [br_false]
          simp [fitsB, hG, h0n, h1, h3]
        · rw [br_true]
          refine ⟨_, _, ⟨rfl⟩, _, ⟨rfl⟩, ⟨⟨ht, hvt⟩⟩, ?_⟩
          rintro b ⟨h4⟩
          cases b
          · rw [br_false]
            simp [fitsB, hG, h0n, h1, h3, h4]
          · rw [br_true]
            refine ⟨_, ⟨rfl⟩, _, ⟨rfl⟩, _, ⟨rfl⟩, ?_⟩
            rintro b ⟨h5⟩
            cases b
            · rw [br_false]
              simp [fitsB, hG, h0n, h1, h3, h4, h5]
            · rw [br_true]
              refine ⟨_, ⟨rfl⟩, _, ⟨rfl⟩, _, ⟨rfl⟩, ?_⟩
              rintro b ⟨h6⟩
              simp only at hG h3 h4 h5 h6
              subst h0n h1
              simp [fitsB, hG, h3, h4, h5, h6]
    · have h0 : r0 = 0 := by simpa using h0
      refine ⟨r1, ⟨rfl⟩, br_intro (fun h1' => ⟨r1, ⟨rfl⟩, v1, ⟨rfl⟩, br_intro (fun h1n => ?_) (fun h1n => ?_)⟩) (fun h1 => ?_)⟩
      · have h1' : r1 ≠ 0 := by simpa using h1'
        have h1n : r1 ≠ v1 := by simpa using h1n
        simp [fitsB, hG, h0, h1', h1n]
      · have h1n : r1 = v1 := by simpa using h1n
        refine ⟨_, _, ⟨rfl⟩, _, ⟨rfl⟩, ⟨⟨hf, hvf⟩⟩, ?_⟩
        rintro b ⟨h3⟩
        cases b
        · rw [br_false]
          simp [fitsB, hG, h0, h1n, h3]
        · rw [br_true]
          refine ⟨_, _, ⟨rfl⟩, _, ⟨rfl⟩, ⟨⟨ht, hvt⟩⟩, ?_⟩
          rintro b ⟨h4⟩
          cases b
          · rw [br_false]
            simp [fitsB, hG, h0, h1n, h3, h4]
          · rw [br_true]
            refine ⟨_, ⟨rfl⟩, _, ⟨rfl⟩, _, ⟨rfl⟩, ?_⟩
            rintro b ⟨h5⟩
            cases b
            · rw [br_false]
              simp [fitsB, hG, h0, h1n, h3, h4, h5]
            · rw [br_true]
              refine ⟨_, ⟨rfl⟩, _, ⟨rfl⟩, _, ⟨rfl⟩, ?_⟩
              rintro b ⟨h6⟩
              simp only at hG h3 h4 h5 h6
              subst h0 h1n
              simp [fitsB, hG, h3, h4, h5, h6]
      · have h1 : r1 = 0 := by simpa using h1
        refine ⟨_, _, ⟨rfl⟩, _, ⟨rfl⟩, ⟨⟨hf, hvf⟩⟩, ?_⟩
        rintro b ⟨h3⟩
        cases b
        · rw [br_false]
          simp [fitsB, hG, h0, h1, h3]
        · rw [br_true]
          refine ⟨_, _, ⟨rfl⟩, _, ⟨rfl⟩, ⟨⟨ht, hvt⟩⟩, ?_⟩
          rintro b ⟨h4⟩
          cases b
          · rw [br_false]
            simp [fitsB, hG, h0, h1, h3, h4]
          · rw [br_true]
            refine ⟨_, ⟨rfl⟩, _, ⟨rfl⟩, _, ⟨rfl⟩, ?_⟩
            rintro b ⟨h5⟩
            cases b
            · rw [br_false]
              simp [fitsB, hG, h0, h1, h3, h4, h5]
            · rw [br_true]
              refine ⟨_, ⟨rfl⟩, _, ⟨rfl⟩, _, ⟨rfl⟩, ?_⟩
              rintro b ⟨h6⟩
              simp only at hG h3 h4 h5 h6
              subst h0 h1
              simp [fitsB, hG, h3, h4, h5, h6]
end Go.Proofs.Ytfnbbgnknkondaa.RulesRun
