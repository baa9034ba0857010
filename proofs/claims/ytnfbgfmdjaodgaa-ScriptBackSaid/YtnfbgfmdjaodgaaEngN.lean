/- Code and functions: what a run over values without addresses answers is what the function answers. -/
import Derived.Test.YtnfbgfmdjaodgaaEngM
set_option linter.unusedVariables false
set_option linter.unusedSimpArgs false
namespace Go.Proofs.Ytnfbgfmdjaodgaa.Eng
open Go.RowKit

section
variable {P : Program} {own : Nat → Prop} {ρ : List Loc} {h : Hp} {w : World}

theorem solid_of_wr {B : Blk} (h : B.wrB = true) : B.solid = true := by cases B <;> simp_all [Blk.wrB, Blk.solid]
theorem solid_of_lock {B : Blk} (h : (lockB B).solid = true) : B.solid = true := by
  cases B <;> simp_all [lockB, Blk.solid]
theorem wr_lock (B : Blk) : (lockB B).wrB = false := by cases B <;> rfl
theorem lockH_get {id : Nat} {B' : Blk} (e : (lockH h)[id]? = some B') : ∃ B, h[id]? = some B ∧ B' = lockB B := by
  simp only [lockH, List.getElem?_map, Option.map_eq_some_iff] at e
  obtain ⟨B, h1, h2⟩ := e
  exact ⟨B, h1, h2.symm⟩
theorem BRel.lock {l : Loc} {B : Blk} (hb : BRel ρ w l B) : BRel ρ w l (lockB B) := by
  cases B with
  | cells c wr => exact ⟨hb.1, hb.2.1, fun h => by cases h⟩
  | map es => trivial
  | iter s pos => trivial
  | dead => trivial
theorem HRel.lock (H : HRel own ρ h w) : HRel (w.heap.size ≤ ·) ρ (lockH h) w := by
  refine ⟨H.glob.over, by simp [lockH, H.len], fun b hb => hb, fun id B' l h1 h2 => ?_, fun id B' l h1 h2 h3 => ?_, fun id B' l h1 h2 h3 => ?_, fun i j Bi Bj li lj h1 h2 h3 h4 h5 h6 h7 => ?_⟩
  · obtain ⟨B, hB, rfl⟩ := lockH_get h1
    exact (H.blk id B l hB h2).lock
  · obtain ⟨B, hB, rfl⟩ := lockH_get h1
    rw [wr_lock] at h3; cases h3
  · obtain ⟨B, hB, rfl⟩ := lockH_get h1
    exact H.lt id B l hB h2 (solid_of_lock h3)
  · obtain ⟨B, hB, rfl⟩ := lockH_get h1
    rw [wr_lock] at h6; cases h6
theorem lockX_get (ids : List Nat) : ∀ (i : Nat) (h : Hp) (j : Nat), (lockX ids i h)[j]? = h[j]?.map fun B => if ids.contains (i + j) then B else lockB B
  | i, [], j => by simp [lockX]
  | i, B :: r, 0 => by simp [lockX]
  | i, B :: r, j + 1 => by
    simp only [lockX, List.getElem?_cons_succ]
    rw [lockX_get ids (i + 1) r j]
    have : i + 1 + j = i + (j + 1) := by omega
    rw [this]
theorem oldX_get (ids : List Nat) : ∀ (i : Nat) (h : Hp) (j : Nat), (oldX ids i h)[j]? = h[j]?.map fun B => if ids.contains (i + j) then Blk.dead else lockB B
  | i, [], j => by simp [oldX]
  | i, B :: r, 0 => by simp [oldX]
  | i, B :: r, j + 1 => by
    simp only [oldX, List.getElem?_cons_succ]
    rw [oldX_get ids (i + 1) r j]
    have : i + 1 + j = i + (j + 1) := by omega
    rw [this]
theorem lockX_length (ids : List Nat) : ∀ (i : Nat) (h : Hp), (lockX ids i h).length = h.length
  | i, [] => rfl
  | i, B :: r => by simp [lockX, lockX_length ids (i + 1) r]
theorem mergeX_length (ids : List Nat) : ∀ (i : Nat) (h h1 : Hp), h.length ≤ h1.length → (mergeX ids i h h1).length = h1.length
  | i, [], r', _ => rfl
  | i, B :: r, [], hl => by simp at hl
  | i, B :: r, B' :: r', hl => by simp [mergeX, mergeX_length ids (i + 1) r r' (by simpa using hl)]
theorem mergeX_get (ids : List Nat) : ∀ (i : Nat) (h h1 : Hp) (j : Nat), h.length ≤ h1.length → (mergeX ids i h h1)[j]? = if j < h.length ∧ ids.contains (i + j) = false then h[j]? else h1[j]?
  | i, [], r', j, _ => by simp [mergeX]
  | i, B :: r, [], j, hl => by simp at hl
  | i, B :: r, B' :: r', 0, hl => by
    simp only [mergeX, List.getElem?_cons_zero, List.length_cons, Nat.add_zero]
    cases ids.contains i <;> simp
  | i, B :: r, B' :: r', j + 1, hl => by
    simp only [mergeX, List.getElem?_cons_succ, List.length_cons]
    rw [mergeX_get ids (i + 1) r r' j (by simpa using hl)]
    have : i + 1 + j = i + (j + 1) := by omega
    rw [this]
    simp
theorem wrAt_spec {h : Hp} {id : Nat} (e : wrAt h id = true) : ∃ c, h[id]? = some (.cells c true) := by
  unfold wrAt at e
  split at e
  · rename_i c hc; exact ⟨c, hc⟩
  · cases e
def Kept (ids : List Nat) (h : Hp) (ρ : List Loc) (b : Nat) : Prop := ∃ (id : Nat) (B : Blk) (l : Loc), h[id]? = some B ∧ ids.contains id = false ∧ ρ[id]? = some l ∧ B.solid = true ∧ b = l.blk
def Free (ids : List Nat) (h : Hp) (ρ : List Loc) (w : World) (b : Nat) : Prop := w.heap.size ≤ b ∨ ∃ (id : Nat) (c : List AV) (l : Loc), h[id]? = some (.cells c true) ∧ ids.contains id = true ∧ ρ[id]? = some l ∧ b = l.blk
theorem HRel.free_own (H : HRel own ρ h w) {ids : List Nat} {b : Nat} (hb : Free ids h ρ w b) : own b := by
  rcases hb with hb | ⟨id, c, l, h1, h2, h3, rfl⟩
  · exact H.fresh b hb
  · exact H.ours id _ l h1 h3 rfl
theorem HRel.kept_not (H : HRel own ρ h w) {ids : List Nat} {b : Nat} (hb : Kept ids h ρ b) : ¬ Free ids h ρ w b := by
  obtain ⟨id, B, l, h1, h2, h3, h4, rfl⟩ := hb
  rintro (hf | ⟨id', c, l', k1, k2, k3, k4⟩)
  · have := H.lt id B l h1 h3 h4; omega
  · have hne : id' ≠ id := fun e => by subst e; rw [h2] at k2; cases k2
    exact H.sep id' id _ B l' l k1 h1 k3 h3 hne rfl h4 k4.symm
theorem HRel.lockX (H : HRel own ρ h w) {ids : List Nat} (hids : ids.all (wrAt h) = true) : HRel (Free ids h ρ w) ρ (lockX ids 0 h) w := by
  have gt : ∀ {id : Nat} {B' : Blk}, (Eng.lockX ids 0 h)[id]? = some B' → ∃ B, h[id]? = some B ∧ ((ids.contains id = true ∧ B' = B) ∨ (ids.contains id = false ∧ B' = lockB B)) := by
    intro id B' e
    rw [lockX_get, Option.map_eq_some_iff] at e
    obtain ⟨B, h1, h2⟩ := e
    rw [Nat.zero_add] at h2
    refine ⟨B, h1, ?_⟩
    cases hc : ids.contains id with
    | true => rw [hc] at h2; exact .inl ⟨rfl, h2.symm⟩
    | false => rw [hc] at h2; exact .inr ⟨rfl, h2.symm⟩
  have sol : ∀ {id : Nat} {B' : Blk}, (Eng.lockX ids 0 h)[id]? = some B' → B'.solid = true → ∃ B, h[id]? = some B ∧ B.solid = true := by
    intro id B' e hs
    obtain ⟨B, h1, ⟨_, rfl⟩ | ⟨_, rfl⟩⟩ := gt e
    · exact ⟨_, h1, hs⟩
    · exact ⟨_, h1, solid_of_lock hs⟩
  have wr : ∀ {id : Nat} {B' : Blk}, (Eng.lockX ids 0 h)[id]? = some B' → B'.wrB = true → ids.contains id = true ∧ h[id]? = some B' := by
    intro id B' e hw
    obtain ⟨B, h1, ⟨hc, rfl⟩ | ⟨hc, rfl⟩⟩ := gt e
    · exact ⟨hc, h1⟩
    · rw [wr_lock] at hw; cases hw
  refine ⟨H.glob.own fun b _ hb => H.free_own hb, by rw [lockX_length]; exact H.len, fun b hb => .inl hb, fun id B' l h1 h2 => ?_, fun id B' l h1 h2 h3 => ?_, fun id B' l h1 h2 h3 => ?_, fun i j Bi Bj li lj h1 h2 h3 h4 h5 h6 h7 => ?_⟩
  · obtain ⟨B, hB, ⟨_, rfl⟩ | ⟨_, rfl⟩⟩ := gt h1
    · exact H.blk id _ l hB h2
    · exact (H.blk id B l hB h2).lock
  · obtain ⟨hc, hB⟩ := wr h1 h3
    obtain ⟨c, hcell⟩ := wrAt_spec (List.all_eq_true.1 hids id (by simpa using hc))
    exact .inr ⟨id, c, l, hcell, hc, h2, rfl⟩
  · obtain ⟨B, hB, hs⟩ := sol h1 h3
    exact H.lt id B l hB h2 hs
  · obtain ⟨hc, hB⟩ := wr h1 h6
    obtain ⟨B, hB', hs⟩ := sol h2 h7
    exact H.sep i j Bi B li lj hB hB' h3 h4 h5 h6 hs
theorem HRel.oldRows (H : HRel own ρ h w) (ids : List Nat) : OldRows (oldX ids 0 h) (Kept ids h ρ) ρ w := fun id B' h1 => by
  rw [oldX_get, Option.map_eq_some_iff] at h1
  obtain ⟨B, hB, h2⟩ := h1
  rw [Nat.zero_add] at h2
  obtain ⟨l, hl, hb⟩ := H.loc hB
  cases hc : ids.contains id with
  | true =>
    rw [hc] at h2
    simp only [if_true] at h2
    subst h2
    exact ⟨l, hl, trivial, fun hs => by simp [Blk.solid] at hs⟩
  | false =>
    rw [hc] at h2
    simp only [Bool.false_eq_true, if_false] at h2
    subst h2
    exact ⟨l, hl, hb.lock, fun hs => ⟨id, B, l, hB, hc, hl, solid_of_lock hs, rfl⟩⟩
theorem HRel.unlock (H : HRel own ρ h w) {ids : List Nat} (hids : ids.all (wrAt h) = true) {σ : List Loc} {h1 : Hp} {w1 : World} (H1 : HRel (Free ids h ρ w) (ρ ++ σ) h1 w1) (K : Keeps (Free ids h ρ w) w w1) (hf : freshOk h1 h.length = true) (hids1 : ids.all (wrAt h1) = true) :
    HRel own (ρ ++ σ) (mergeX ids 0 h h1) w1 ∧ Keeps own w w1 := by
  have hlen := H.len
  have hlen1 := H1.len
  simp only [freshOk, Bool.and_eq_true, decide_eq_true_eq, List.all_eq_true] at hf
  obtain ⟨hn, hf⟩ := hf
  have lr : ∀ {id : Nat} {l : Loc}, id < h.length → (ρ ++ σ)[id]? = some l → ρ[id]? = some l := fun hid e => by
    rwa [List.getElem?_append_left (by omega)] at e
  -- three kinds of rows: kept, written meanwhile, new
  have kind : ∀ {id : Nat} {B : Blk}, (mergeX ids 0 h h1)[id]? = some B → (id < h.length ∧ ids.contains id = false ∧ h[id]? = some B) ∨ (h1[id]? = some B ∧ id < h.length ∧ ids.contains id = true ∧ (∃ c, h[id]? = some (.cells c true)) ∧ B.wrB = true) ∨ (h1[id]? = some B ∧ h.length ≤ id ∧ (B.solid = true → B.wrB = true)) := by
    intro id B e
    rw [mergeX_get ids 0 h h1 id hn, Nat.zero_add] at e
    split at e
    · rename_i hc; exact .inl ⟨hc.1, hc.2, e⟩
    · rename_i hc
      by_cases hid : id < h.length
      · have hc' : ids.contains id = true := by
          cases hk : ids.contains id with
          | true => rfl
          | false => exact absurd ⟨hid, hk⟩ hc
        have hm : id ∈ ids := by simpa using hc'
        obtain ⟨c, hcell⟩ := wrAt_spec (List.all_eq_true.1 hids1 id hm)
        rw [e] at hcell
        cases hcell
        exact .inr (.inl ⟨e, hid, hc', wrAt_spec (List.all_eq_true.1 hids id hm), rfl⟩)
      · have hid := Nat.le_of_not_lt hid
        have hm : B ∈ h1.drop h.length := by
          have : (h1.drop h.length)[id - h.length]? = some B := by rw [List.getElem?_drop, ← e]; congr 1; omega
          exact List.mem_of_getElem? this
        refine .inr (.inr ⟨e, hid, fun hs => ?_⟩)
        have := hf B hm
        simpa [hs] using this
  -- a new row that may be written lies behind all that was there
  have newLt : ∀ {id : Nat} {B : Blk} {l : Loc}, h1[id]? = some B → h.length ≤ id → (ρ ++ σ)[id]? = some l → B.wrB = true → w.heap.size ≤ l.blk := by
    intro id B l e hid hl hw
    rcases H1.ours id B l e hl hw with hb | ⟨id', c, l', k1, k2, k3, k4⟩
    · exact hb
    · have hm : id' ∈ ids := by simpa using k2
      obtain ⟨c', hcell⟩ := wrAt_spec (List.all_eq_true.1 hids1 id' hm)
      have hlt : id' < h.length := (List.getElem?_eq_some_iff.1 k1).1
      exact absurd k4 (H1.sep id id' B _ l l' e hcell hl (by rw [List.getElem?_append_left (by omega)]; exact k3) (by omega) hw rfl)
  have old : ∀ (id : Nat) (B : Blk) (l : Loc), ids.contains id = false → h[id]? = some B → ρ[id]? = some l → B.solid = true → w1.heap[l.blk]? = w.heap[l.blk]? :=
    fun id B l hc hB hl hs => K.block _ (H.kept_not ⟨id, B, l, hB, hc, hl, hs, rfl⟩)
  refine ⟨⟨H.glob.keep K.size (fun b hb _ => K.block b fun hfr => hb (H.free_own hfr)), by rw [mergeX_length ids 0 h h1 hn]; exact hlen1, fun b hb => H.fresh b (Nat.le_trans K.size hb), fun id B l k1 k2 => ?_, fun id B l k1 k2 k3 => ?_, fun id B l k1 k2 k3 => ?_, fun i j Bi Bj li lj k1 k2 k3 k4 k5 k6 k7 => ?_⟩, ⟨K.os, K.tape, K.output, K.size, fun b hb => K.block b fun hfr => hb (H.free_own hfr)⟩⟩
  · rcases kind k1 with ⟨a, b, c⟩ | ⟨a, b, c, d, e⟩ | ⟨a, b, c⟩
    · exact ((H.blk id B l c (lr a k2)).old fun hs => old id B l b c (lr a k2) hs).more σ
    · exact H1.blk id B l a k2
    · exact H1.blk id B l a k2
  · rcases kind k1 with ⟨a, b, c⟩ | ⟨a, b, c, d, e⟩ | ⟨a, b, c⟩
    · exact H.ours id B l c (lr a k2) k3
    · exact H.free_own (H1.ours id B l a k2 k3)
    · exact H.free_own (H1.ours id B l a k2 k3)
  · rcases kind k1 with ⟨a, b, c⟩ | ⟨a, b, c, d, e⟩ | ⟨a, b, c⟩
    · exact Nat.lt_of_lt_of_le (H.lt id B l c (lr a k2) k3) K.size
    · exact H1.lt id B l a k2 k3
    · exact H1.lt id B l a k2 k3
  · rcases kind k1 with ⟨a, b, c⟩ | ⟨a, b, c, ⟨cc, d⟩, e⟩ | ⟨a, b, c⟩ <;> rcases kind k2 with ⟨a', b', c'⟩ | ⟨a', b', c', ⟨cc', d'⟩, e'⟩ | ⟨a', b', c'⟩
    · exact H.sep i j Bi Bj li lj c c' (lr a k3) (lr a' k4) k5 k6 k7
    · exact H.sep i j Bi _ li lj c d' (lr a k3) (lr b' k4) k5 k6 rfl
    · have m1 := H.lt i Bi li c (lr a k3) (solid_of_wr k6)
      have m2 := newLt a' b' k4 (c' k7)
      intro he; omega
    · exact H.sep i j _ Bj li lj d c' (lr b k3) (lr a' k4) k5 rfl k7
    · exact H.sep i j _ _ li lj d d' (lr b k3) (lr b' k4) k5 rfl rfl
    · have m1 := H.lt i _ li d (lr b k3) rfl
      have m2 := newLt a' b' k4 (c' k7)
      intro he; omega
    · have m1 := H.lt j Bj lj c' (lr a' k4) k7
      have m2 := newLt a b k3 k6
      intro he; omega
    · have m1 := H.lt j _ lj d' (lr b' k4) rfl
      have m2 := newLt a b k3 k6
      intro he; omega
    · exact H1.sep i j Bi Bj li lj a a' k3 k4 k5 k6 k7
theorem idsOf_wr (t : List AV) (h : Hp) (fr : List Tmp) : (idsOf t h fr).all (wrAt h) = true := by
  unfold idsOf
  rw [List.all_eq_true]
  intro x hx
  exact (List.mem_filter.1 hx).2
theorem closed_start (ops : Array Oper) (n : Nat) : ListedClosed ops (Array.replicate n false) := by
  intro j oj hj hl
  simp only [Array.getD_eq_getD_getElem?, Array.getElem?_replicate] at hl
  split at hl <;> simp at hl
theorem way_run {Γ : Env} (hΓ : Sound P Γ) (hm : P.follows .mixedOrders = true) {ops : Array Oper} {id : Nat} {y : Road} {s s' : St} {a : Act} {Q : Exit → Act → World → Prop} (hok : wayOk ops y = true) (H : HRel own ρ s.h w) (ht : VRels ρ s.t a.tmps.toList)
    (he : runWay P Γ ops y s = some s') (hQ : ∀ c a w d v, Q (.panic c) (Act.put a d v) w → Q (.panic c) a w) (hK : Cont own ρ w a.defers s' (Q .normal)) : (Code.region id ops true).wp P Q a w := by
  obtain ⟨lock, rest⟩ := y
  have H0 : HRel own ρ s.h { w with drawn := w.drawn + 1 } := H.heap rfl
  have hK0 : Cont own ρ { w with drawn := w.drawn + 1 } a.defers s' (Q .normal) := fun σ a' w' h1 h2 h3 h4 => hK σ a' w' h1 h2 ⟨h3.os, h3.tape, h3.output, h3.size, h3.block⟩ h4
  simp only [wayOk, Bool.and_eq_true] at hok
  obtain ⟨⟨hsel, hev⟩, hok⟩ := hok
  cases lock with
  | none =>
    simp only [Bool.and_eq_true, beq_iff_eq] at hok
    obtain ⟨hlen, hok⟩ := hok
    split at hok
    · rename_i l hl
      simp only [decide_eq_true_eq] at hok
      simp only [runWay] at he
      refine wp_region_any hm (wpAny_of_E (N := fun _ => False) (d1 := []) (d2 := effsOf rest) _ _ _ _ ?_)
      have := plan_run (own := own) (N := fun _ => False) (d1 := []) (d2 := effsOf rest) (A := false) (h0 := []) (Q := Q) hΓ hsel hQ (fun h => by cases h) rest 0 _ _ ρ s s' a _ hev hl he (closed_start _ _) H0 ht (fun h => by cases h) (fun σ a' w' k1 k2 k3 k4 _ => ⟨hok, hK0 σ a' w' k1 k2 k3 k4⟩)
      rw [Nat.zero_add, hlen] at this
      exact this
    · cases hok
  | some q =>
    obtain ⟨fr, p⟩ := q
    simp only [Bool.and_eq_true, beq_iff_eq] at hok
    obtain ⟨⟨hev1, hlen⟩, hok⟩ := hok
    split at hok
    · rename_i l1 hl1
      split at hok
      · rename_i l2 hl2
        simp only [decide_eq_true_eq] at hok
        simp only [runWay] at he
        split at he
        · rename_i s1 hs1
          split at he
          · rename_i hf
            simp only [Bool.and_eq_true] at hf
            refine wp_region_any hm (wpAny_of_E (N := Kept (idsOf s.t s.h fr) s.h ρ) (d1 := effsOf p) (d2 := effsOf rest) _ _ _ _ ?_)
            have := plan_run (own := Free (idsOf s.t s.h fr) s.h ρ { w with drawn := w.drawn + 1 }) (N := Kept (idsOf s.t s.h fr) s.h ρ) (d1 := effsOf p) (d2 := effsOf rest) (A := true) (h0 := oldX (idsOf s.t s.h fr) 0 s.h) (Q := Q) hΓ hsel hQ (fun _ b hb => H0.kept_not hb) p (planLen rest) _ _ ρ ⟨s.t, lockX (idsOf s.t s.h fr) 0 s.h⟩ s1 a { w with drawn := w.drawn + 1 } hev1 hl1 hs1 (closed_start _ _) (H0.lockX (idsOf_wr _ _ _)) ht (fun _ => H0.oldRows _) ?_
            · rw [Nat.add_comm, hlen] at this
              exact this
            · intro σ a' w' k1 k2 k3 k4 hc
              obtain ⟨k1, k3⟩ := H0.unlock (idsOf_wr _ _ _) k1 k3 hf.1 hf.2
              have := plan_run (own := own) (N := Kept (idsOf s.t s.h fr) s.h ρ) (d1 := effsOf p) (d2 := effsOf rest) (A := false) (h0 := []) (Q := Q) hΓ hsel hQ (fun h => by cases h) rest 0 _ _ (ρ ++ σ) ⟨s1.t, mergeX (idsOf s.t s.h fr) 0 s.h s1.h⟩ s' a' w' hev hl2 he hc k1 k2 (fun h => by cases h) (fun τ a'' w'' m1 m2 m3 m4 _ => ⟨hok, (hK0.next k3) τ a'' w'' m1 m2 m3 (m4.trans k4)⟩)
              rw [Nat.zero_add] at this
              exact this
          · cases he
        · cases he
      · cases hok
    · cases hok

def Ex.is : Ex → Exit → Prop
  | .n, .normal => True
  | .r, .ret => True
  | .x i, .exit j => i = j
  | _, _ => False
def Post (own : Nat → Prop) (ρ : List Loc) (w : World) (D : List Deferred) (ex : Ex) (s' : St) : Exit → Act → World → Prop := fun e a' w' =>
  ex.is e ∧ ∃ σ, HRel own (ρ ++ σ) s'.h w' ∧ VRels (ρ ++ σ) s'.t a'.tmps.toList ∧ Keeps own w w' ∧ a'.defers = D
theorem Post.later {σ : List Loc} {w1 : World} {D : List Deferred} {ex : Ex} {s' : St} {e : Exit} {a' : Act} {w' : World} (k : Keeps own w w1) (hp : Post own (ρ ++ σ) w1 D ex s' e a' w') : Post own ρ w D ex s' e a' w' := by
  obtain ⟨h1, τ, h2, h3, h4, h5⟩ := hp
  exact ⟨h1, σ ++ τ, by rw [← List.append_assoc]; exact h2, by rw [← List.append_assoc]; exact h3, k.trans h4, h5⟩
theorem Post.panic {D : List Deferred} {ex : Ex} {s' : St} (c : List PanicEntry) (a : Act) (w' : World) (d : Option Tmp) (v : Value) (h : Post own ρ w D ex s' (.panic c) (Act.put a d v) w') : Post own ρ w D ex s' (.panic c) a w' := by
  obtain ⟨h1, _⟩ := h
  cases ex <;> exact h1.elim
theorem Post.exit_of {D : List Deferred} {ex : Ex} {s' : St} {e : Exit} {a' : Act} {w' : World} (hne : ex ≠ .n) (h : Post own ρ w D ex s' e a' w') (next : Act → World → Prop) (Q : Exit → Act → World → Prop) (hQ : Q e a' w') : Exit.then next Q e a' w' := by
  obtain ⟨h1, _⟩ := h
  cases ex with
  | n => exact absurd rfl hne
  | x i => cases e <;> first | exact h1.elim | exact hQ
  | r => cases e <;> first | exact h1.elim | exact hQ
theorem exec_run {Γ : Env} (hΓ : Sound P Γ) (hm : P.follows .mixedOrders = true) (W : Nat → Option Road) (F : Nat) : ∀ (c : Code) (own : Nat → Prop) (s s' : St) (ex : Ex) (ρ : List Loc) (a : Act) (w : World), codeOk P W c = true → exec P Γ W F c s = some (ex, s') →
    HRel own ρ s.h w → VRels ρ s.t a.tmps.toList → c.wp P (Post own ρ w a.defers ex s') a w
  | .skip, own, s, s', ex, ρ, a, w, hok, he, H, ht => by
    simp only [exec, Option.some.injEq, Prod.mk.injEq] at he
    obtain ⟨rfl, rfl⟩ := he
    exact wp_skip ⟨trivial, [], by simpa using H, by simpa using ht, Keeps.refl _ _, rfl⟩
  | .label l, own, s, s', ex, ρ, a, w, hok, he, H, ht => by
    simp only [exec, Option.some.injEq, Prod.mk.injEq] at he
    obtain ⟨rfl, rfl⟩ := he
    exact wp_label ⟨trivial, [], by simpa using H, by simpa using ht, Keeps.refl _ _, rfl⟩
  | .exit i, own, s, s', ex, ρ, a, w, hok, he, H, ht => by
    simp only [exec, Option.some.injEq, Prod.mk.injEq] at he
    obtain ⟨rfl, rfl⟩ := he
    exact wp_exit ⟨rfl, [], by simpa using H, by simpa using ht, Keeps.refl _ _, rfl⟩
  | .ret, own, s, s', ex, ρ, a, w, hok, he, H, ht => by
    simp only [exec, Option.some.injEq, Prod.mk.injEq] at he
    obtain ⟨rfl, rfl⟩ := he
    exact wp_ret ⟨trivial, [], by simpa using H, by simpa using ht, Keeps.refl _ _, rfl⟩
  | .region id ops draw, own, s, s', ex, ρ, a, w, hok, he, H, ht => by
    simp only [exec] at he
    split at he
    · rename_i s1 h1
      simp only [Option.some.injEq, Prod.mk.injEq] at he
      obtain ⟨rfl, rfl⟩ := he
      cases draw with
      | true =>
        simp only [if_true] at h1
        simp only [codeOk, Bool.not_true, Bool.false_or] at hok
        exact way_run hΓ hm hok H ht h1 (fun c a w d v h => Post.panic c a w d v h) fun σ a' w' k1 k2 k3 k4 => ⟨trivial, σ, k1, k2, k3, k4⟩
      | false =>
        simp only [Bool.false_eq_true, if_false] at h1
        refine wp_region ?_
        have := runOps_run (Q := Post own ρ w a.defers .n s1) hΓ (ops := ops) 0 ops.toList ρ s s1 a w (fun j o hj => by rw [Nat.zero_add, ← Array.getElem?_toList]; exact hj) H ht h1 fun σ a' w' k1 k2 k3 k4 => ⟨trivial, σ, k1, k2, k3, k4⟩
        rw [← List.range_eq_range'] at this
        simpa using this
    · cases he
  | .seq x y, own, s, s', ex, ρ, a, w, hok, he, H, ht => by
    simp only [codeOk, Bool.and_eq_true] at hok
    simp only [exec] at he
    split at he
    · rename_i s1 h1
      refine wp_seq (wp_mono (exec_run hΓ hm W F x own s s1 .n ρ a w hok.1 h1 H ht) fun e a' w' hp => ?_)
      obtain ⟨h2, σ, h3, h4, h5, h6⟩ := hp
      cases e with
      | normal => 
        have := exec_run hΓ hm W F y own s1 s' ex (ρ ++ σ) a' w' hok.2 he h3 h4
        rw [h6] at this
        exact wp_mono this fun e a'' w'' hp => hp.later h5
      | _ => exact h2.elim
    · rename_i h1
      have hne : ex ≠ .n := fun hn => by
        rw [hn] at he
        exact h1 _ he
      exact wp_seq (wp_mono (exec_run hΓ hm W F x own s s' ex ρ a w hok.1 he H ht) fun e a' w' hp => hp.exit_of hne _ _ hp)
  | .cond c x y, own, s, s', ex, ρ, a, w, hok, he, H, ht => by
    simp only [codeOk, Bool.and_eq_true] at hok
    have hc := ev_rel ht c
    simp only [exec] at he
    split at he
    · rename_i h1; rw [h1] at hc
      exact wp_cond_true hc (exec_run hΓ hm W F x own s s' ex ρ a w hok.1 he H ht)
    · rename_i h1; rw [h1] at hc
      exact wp_cond_false hc (exec_run hΓ hm W F y own s s' ex ρ a w hok.2 he H ht)
    · cases he
  | .block id c, own, s, s', ex, ρ, a, w, hok, he, H, ht => by
    simp only [codeOk] at hok
    simp only [exec] at he
    split at he
    · rename_i i s1 h1
      refine wp_block (wp_mono (exec_run hΓ hm W F c own s s1 (.x i) ρ a w hok h1 H ht) fun e a' w' hp => ?_)
      obtain ⟨h2, hp⟩ := hp
      cases e with
      | exit j =>
        have h2 : i = j := h2
        subst h2
        split at he
        · rename_i hid
          simp only [Option.some.injEq, Prod.mk.injEq] at he
          obtain ⟨rfl, rfl⟩ := he
          simp only [Exit.inBlock, hid, if_true]
          exact ⟨trivial, hp⟩
        · rename_i hid
          simp only [Option.some.injEq, Prod.mk.injEq] at he
          obtain ⟨rfl, rfl⟩ := he
          simp only [Exit.inBlock, hid, if_false]
          exact ⟨rfl, hp⟩
      | _ => exact h2.elim
    · rename_i h1
      refine wp_block (wp_mono (exec_run hΓ hm W F c own s s' ex ρ a w hok he H ht) fun e a' w' hp => ?_)
      cases ex with
      | x i => exact absurd he (h1 i s')
      | n => cases e <;> first | exact hp | exact hp.1.elim
      | r => cases e <;> first | exact hp | exact hp.1.elim
  | .loop c, own, s, s', ex, ρ, a, w, hok, he, H, ht => by
    simp only [codeOk] at hok
    simp only [exec] at he
    refine wp_loop_ghost (fun n a1 w1 => ∃ σ s1, HRel own (ρ ++ σ) s1.h w1 ∧ VRels (ρ ++ σ) s1.t a1.tmps.toList ∧ Keeps own w w1 ∧ a1.defers = a.defers ∧ loopN (exec P Γ W F c) n s1 = some (ex, s')) F ⟨[], s, by simpa using H, by simpa using ht, Keeps.refl _ _, rfl, he⟩ ?_
    rintro n a1 w1 ⟨σ, s1, k1, k2, k3, k4, k5⟩
    cases n with
    | zero => cases k5
    | succ n =>
      simp only [loopN] at k5
      split at k5
      · rename_i s2 h2
        refine wp_mono (exec_run hΓ hm W F c own s1 s2 .n (ρ ++ σ) a1 w1 hok h2 k1 k2) fun e a' w' hp => ?_
        obtain ⟨m0, τ, m1, m2, m3, m4⟩ := hp
        cases e with
        | normal => exact ⟨n, Nat.lt_succ_self n, σ ++ τ, s2, by rw [← List.append_assoc]; exact m1, by rw [← List.append_assoc]; exact m2, k3.trans m3, m4.trans k4, k5⟩
        | _ => exact m0.elim
      · rename_i h2
        have hne : ex ≠ .n := fun hn => by
          rw [hn] at k5
          exact h2 _ k5
        refine wp_mono (exec_run hΓ hm W F c own s1 s' ex (ρ ++ σ) a1 w1 hok k5 k1 k2) fun e a' w' hp => ?_
        rw [k4] at hp
        exact hp.exit_of hne _ _ (hp.later k3)
  | .scope c, own, s, s', ex, ρ, a, w, hok, he, H, ht => by
    simp only [codeOk] at hok
    simp only [exec] at he
    refine wp_scope_straight (wp_mono (exec_run hΓ hm W F c own s s' ex ρ a w hok he H ht) fun e a' w' hp => ?_)
    cases e with
    | goto l => cases ex <;> exact hp.1.elim
    | _ => exact hp
  | .rangeFunc _ _ _ _, _, _, _, _, _, _, _, _, he, _, _ => by simp [exec] at he
  | .goto _, _, _, _, _, _, _, _, _, he, _, _ => by simp [exec] at he
  | .refuse _, _, _, _, _, _, _, _, _, he, _, _ => by simp [exec] at he

def resV (tmps : Array Value) : ResultVar → Sem Value
  | .tmp t => pure (tmps.getD t undef)
  | .cell x t => do loadVar t (← asAddr (tmps.getD x undef))
theorem resV_run {s : St} {a : Act} (H : HRel own ρ s.h w) (ht : VRels ρ s.t a.tmps.toList) (r : ResultVar) {v : AV} (hv : resA P s r = some v) : ∃ z, VRel ρ v z ∧ (resV a.tmps r).run P w = .ok z w := by
  cases r with
  | tmp t =>
    simp only [resA, Option.some.injEq] at hv
    subst hv
    exact ⟨_, ev_rel ht (.tmp t), by simp [resV, Act.eval]⟩
  | cell x t =>
    simp only [resA] at hv
    obtain ⟨z, hz, hrun⟩ := aload_run H hv (ev_rel ht (.tmp x))
    refine ⟨z, hz, ?_⟩
    unfold aload at hv
    split at hv
    · rename_i id off hp
      have hx := ev_rel (ρ := ρ) ht (.tmp x)
      simp only [ev] at hx
      rw [hp] at hx
      obtain ⟨l, hl, hx⟩ := hx
      simp only [Act.eval] at hx hrun
      rw [hx] at hrun
      simp only [resV]
      rw [hx]
      simpa [Instr.loadAt, Instr.sureAddr, asAddr] using hrun
    · cases hv
theorem resultsA_run {s : St} {a : Act} (H : HRel own ρ s.h w) (ht : VRels ρ s.t a.tmps.toList) : ∀ {rs : List ResultVar} {vs : List AV}, resultsA P s rs = some vs → ∃ zs : List Value, VRels ρ vs zs ∧ (rs.mapM (resV a.tmps)).run P w = .ok zs w
  | [], vs, e => by
    simp only [resultsA, Option.some.injEq] at e
    subst e
    exact ⟨[], rfl, by simp⟩
  | r :: rs, vs, e => by
    simp only [resultsA] at e
    obtain ⟨v, hv, e⟩ := Option.bind_eq_some_iff.1 e
    obtain ⟨us, hus, rfl⟩ := Option.map_eq_some_iff.1 e
    obtain ⟨zs, h1, h2⟩ := resultsA_run H ht hus
    obtain ⟨z, hz, hrun⟩ := resV_run H ht r hv
    refine ⟨z :: zs, ⟨z, zs, rfl, hz, h1⟩, ?_⟩
    rw [List.mapM_cons]
    simp only [Sem.run_bind, hrun, Result.andThen_ok, h2, Sem.run_pure]
theorem results_eq (fn : Func) (tmps : Array Value) : results fn tmps = (do
    let vs ← fn.results.mapM (resV tmps)
    pure (if h : vs.size = 1 then vs[0] else .tuple vs)) := by
  unfold results
  congr 1
theorem results_run {fn : Func} {s : St} {a : Act} (H : HRel own ρ s.h w) (ht : VRels ρ s.t a.tmps.toList) {vs : List AV} (e : resultsA P s fn.results.toList = some vs) : ∃ z, VRel ρ (joinA vs) z ∧ (results fn a.tmps).run P w = .ok z w := by
  obtain ⟨zs, h1, h2⟩ := resultsA_run H ht e
  have hrun : (results fn a.tmps).run P w = .ok (if h : zs.toArray.size = 1 then zs.toArray[0] else .tuple zs.toArray) w := by
    rw [results_eq, Array.mapM_eq_mapM_toList]
    simp only [Sem.run_bind, map_eq_pure_bind, bind_assoc, pure_bind]
    rw [h2]
    simp
  refine ⟨_, ?_, hrun⟩
  match vs, zs, h1 with
  | [], _, h1 => cases h1; exact ⟨[], rfl, rfl⟩
  | [v], _, ⟨z, _, rfl, hz, hnil⟩ => cases hnil; exact hz
  | v :: u :: vs, _, ⟨z, _, rfl, hz, y, ys, rfl, hy, hr⟩ => exact ⟨z :: y :: ys, by simp, z, _, rfl, hz, y, ys, rfl, hy, hr⟩
theorem runFn_run {Γ : Env} (hΓ : Sound P Γ) (hm : P.follows .mixedOrders = true) {W : Nat → Option Road} {F : Nat} {f : FuncId} {fn : Func} {args : List AV} {r : AV} {h' : Hp} {vs : List Value} (hf : P.funcs[f]? = some fn) (hok : ∀ c, fn.body = some c → codeOk P W c = true)
    (he : runFn P Γ W F fn args h = some (r, h')) (H : HRel own ρ h w) (ha : VRels ρ args vs) :
    Calls P f vs.toArray w fun e w' => ∃ σ z, e = .returned z ∧ HRel own (ρ ++ σ) h' w' ∧ VRel (ρ ++ σ) r z ∧ Keeps own w w' := by
  unfold runFn at he
  cases hb : fn.body with
  | none => rw [hb] at he; cases he
  | some c =>
    rw [hb] at he
    simp only at he
    refine calls_of_wp hf hb ?_
    have ht : VRels ρ (args ++ List.replicate (fn.ntmps - args.length) und) (vs.toArray ++ Array.replicate (fn.ntmps - vs.toArray.size) undef).toList := by
      rw [Array.toList_append, Array.toList_replicate]
      refine ha.append ?_
      have : vs.toArray.size = args.length := by simpa using ha.length
      rw [this]
      have hrep : ∀ n : Nat, VRels ρ (List.replicate n und) (List.replicate n undef) := by
        intro n
        induction n with
        | zero => rfl
        | succ n ih => exact ⟨_, _, rfl, und_rel, ih⟩
      exact hrep _
    split at he
    · cases he
    · rename_i ex s hne hex
      obtain ⟨rs, hrs, hq⟩ := Option.map_eq_some_iff.1 he
      cases hq
      refine wp_mono (exec_run hΓ hm W F c own _ s ex ρ { tmps := vs.toArray ++ Array.replicate (fn.ntmps - vs.toArray.size) undef, defers := [] } w (hok c hb) hex H ht) fun e a' w' hp => ?_
      obtain ⟨k0, σ, k1, k2, k3, k4⟩ := hp
      obtain ⟨z, hz, hrun⟩ := results_run k1 k2 hrs
      cases ex with
      | x i => exact absurd rfl (hne i)
      | n => cases e <;> first | exact k0.elim | exact ⟨k4, z, hrun, σ, z, rfl, k1, hz, k3⟩
      | r => cases e <;> first | exact k0.elim | exact ⟨k4, z, hrun, σ, z, rfl, k1, hz, k3⟩
    · cases he
end
end Go.Proofs.Ytnfbgfmdjaodgaa.Eng
