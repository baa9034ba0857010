/- The library's functions, by the shelf's contracts: strings.Cut, Split, Join, strconv.Itoa; the variables that they read. -/
import Derived.Test.YtohaalilplngnaaDoorEngX
import Derived.Test.YtohaalilplngnaaDoorEngY
import Derived.Test.YtohaalilplngnaaDoorClassShelf
import Derived.Test.YtohaalilplngnaaDoorClassTz
set_option linter.unusedVariables false
set_option linter.unusedSimpArgs false
open Go Go.Proofs.YtohaalilplngnaaDoor.Eng Go.RowKit
namespace Go.Proofs.YtohaalilplngnaaDoor.ClassRun
noncomputable abbrev P := Go.Proofs.Tryd.prog
def noW : Nat → Option Eng.Road := fun _ => none
def noL : Nat → Option Head := fun _ => none
theorem mo : P.follows .mixedOrders = true := by kernel_rfl
theorem HRel.grow {own : Nat → Prop} {ρ : List Eng.Loc} {h : Hp} {w w' : World} (H : HRel own ρ h w) (hs : w.heap.size ≤ w'.heap.size) (old : ∀ b, b < w.heap.size → w'.heap[b]? = w.heap[b]?) : HRel own ρ h w' :=
  ⟨H.glob.keep hs (fun b _ hb => old b hb), H.len, fun b hb => H.fresh b (Nat.le_trans hs hb), fun id B l m1 m2 => (H.blk id B l m1 m2).old fun hl => old _ (H.lt id B l m1 m2 hl), H.ours, fun id B l m1 m2 m3 => Nat.lt_of_lt_of_le (H.lt id B l m1 m2 m3) hs, H.sep⟩
theorem keeps_of {own : Nat → Prop} {ρ : List Eng.Loc} {h : Hp} {w w' : World} (H : HRel own ρ h w) (B : Below w.heap.size w w') : Keeps own w w' :=
  ⟨B.os, B.tape, B.output, B.size, fun b hb => B.block b (Nat.lt_of_not_le fun hle => hb (H.fresh b hle))⟩
/-! the variables -/
theorem maxLen_of {own : Nat → Prop} {w : World} (G : Glob own w) : ∃ m, w.cell? ⟨1, 0, none⟩ = some (.int .i64 m) := by
  obtain ⟨w0, ⟨_, h1, _⟩, h2⟩ := G.base
  obtain ⟨m, hm⟩ := h1
  exact ⟨m, (cell_of_heap (h2 1 (by decide))).trans hm⟩
theorem deBruijn_of {own : Nat → Prop} {w : World} (G : Glob own w) : w.cell? ⟨3, 15, none⟩ = some (.int .u8 4) := by
  obtain ⟨w0, ⟨_, _, h1⟩, h2⟩ := G.base
  exact (cell_of_heap (h2 3 (by decide))).trans h1
theorem gPow : Go.Proofs.Tryd.prog.globalNamed "internal/strconv.uint64pow10" = some 0 := by kernel_rfl
theorem tab_of {own : Nat → Prop} {w : World} (G : Glob own w) : Lib.TabIs Go.Proofs.Tryd.prog w "internal/strconv.uint64pow10" .u64 Lib.pow10Tab := by
  obtain ⟨w0, ⟨⟨t, fr, h1⟩, _, _⟩, h2⟩ := G.base
  have e := (h2 0 (by decide)).trans h1
  unfold Lib.TabIs World.var?
  rw [gPow, Option.bind_some, e, Lib.pow10Tab, List.map_map]
  rfl
/-! the contracts -/
def Ccut : List AV → Hp → Option (AV × Hp) := fun args h => match args with
  | [.s s, .s sep] => if s.size < 4294967281 then some (.tu [.s ⟨(Lib.cut s.data.toList sep.data.toList).1.toArray⟩, .s ⟨(Lib.cut s.data.toList sep.data.toList).2.1.toArray⟩, .bo (Lib.cut s.data.toList sep.data.toList).2.2], h) else none
  | _ => none
theorem cut_s : SoundF P 42 Ccut := by
  intro args h r h' he own ρ w vs H ha
  unfold Ccut at he
  split at he
  · rename_i s sep
    split at he
    · rename_i hs
      simp only [Option.some.injEq, Prod.mk.injEq] at he
      obtain ⟨rfl, rfl⟩ := he
      obtain ⟨v0, _, rfl, h0, v1, _, rfl, h1, rfl⟩ := ha
      cases h0; cases h1
      obtain ⟨m, hm⟩ := maxLen_of H.glob
      refine (ClassShelf.strings_Cut s sep m w hs hm).mono fun e w' hp => ?_
      obtain ⟨rfl, n, rfl⟩ := hp
      refine ⟨[], _, rfl, ?_, ⟨_, rfl, _, _, rfl, rfl, _, _, rfl, rfl, _, _, rfl, rfl, rfl⟩, ⟨rfl, rfl, rfl, Nat.le_refl _, fun _ _ => rfl⟩⟩
      rw [List.append_nil]
      exact H.heap rfl
    · cases he
  · cases he
def Citoa : List AV → Hp → Option (AV × Hp) := fun args h => match args with
  | [.i .i64 n] => if -9223372036854775808 ≤ n ∧ n ≤ 9223372036854775807 then some (.s ⟨(Lib.itoa n).toArray⟩, h) else none
  | _ => none
theorem itoa_s : SoundF P 32 Citoa := by
  intro args h r h' he own ρ w vs H ha
  unfold Citoa at he
  split at he
  · rename_i n
    split at he
    · rename_i hn
      simp only [Option.some.injEq, Prod.mk.injEq] at he
      obtain ⟨rfl, rfl⟩ := he
      obtain ⟨v0, _, rfl, h0, rfl⟩ := ha
      cases h0
      refine (ClassShelf.strconv_Itoa n hn.1 hn.2 w (tab_of H.glob)).mono fun e w' hp => ?_
      obtain ⟨rfl, k, os, rfl⟩ := hp
      have hs : w.heap.size ≤ (Go.Sort.grow (w.drewN k) os).heap.size := by
        show w.heap.size ≤ (w.heap ++ os).size
        rw [Array.size_append]; omega
      have old : ∀ b, b < w.heap.size → (Go.Sort.grow (w.drewN k) os).heap[b]? = w.heap[b]? := by
        intro b hb
        show (w.heap ++ os)[b]? = w.heap[b]?
        rw [Array.getElem?_append_left hb]
      refine ⟨[], _, rfl, ?_, rfl, ⟨rfl, rfl, rfl, hs, fun b hb => old b (Nat.lt_of_not_le fun hle => hb (H.fresh b hle))⟩⟩
      rw [List.append_nil]
      exact HRel.grow H hs old
    · cases he
  · cases he
theorem rel_strs {ρ : List Eng.Loc} : ∀ (l : List ByteArray), VRels ρ (l.map AV.s) (l.map Value.string)
  | [] => rfl
  | x :: l => ⟨_, _, rfl, rfl, rel_strs l⟩
def Csplit : List AV → Hp → Option (AV × Hp) := fun args h => match args with
  | [.s s, .s sep] => if s.size < 4294967281 ∧ 1 ≤ sep.size then (if (Lib.splitB sep 0 (Lib.countB s sep) s).length = Lib.countB s sep + 1 then some (.sl h.length 0 (Lib.countB s sep + 1) 1 (some (Lib.countB s sep + 1)), h ++ [.cells ((Lib.splitB sep 0 (Lib.countB s sep) s).map AV.s) true]) else none) else none
  | _ => none
theorem split_s : SoundF P 39 Csplit := by
  intro args h r h' he own ρ w vs H ha
  unfold Csplit at he
  split at he
  · rename_i s sep
    split at he
    · rename_i hs
      split at he
      · rename_i hlen
        simp only [Option.some.injEq, Prod.mk.injEq] at he
        obtain ⟨rfl, rfl⟩ := he
        obtain ⟨v0, _, rfl, h0, v1, _, rfl, h1, rfl⟩ := ha
        cases h0; cases h1
        obtain ⟨m, hm⟩ := maxLen_of H.glob
        refine (ClassShelf.strings_Split s sep m w hs.1 hm hs.2).mono fun e w' hp => ?_
        obtain ⟨rfl, rfl⟩ := hp
        have hr := rel_strs (ρ := ρ) (Lib.splitB sep 0 (Lib.countB s sep) s)
        have hz : (((Lib.splitB sep 0 (Lib.countB s sep) s).map Value.string).toArray).size = Lib.countB s sep + 1 := by simp [hlen]
        refine ⟨[⟨w.heap.size, 0, (((Lib.splitB sep 0 (Lib.countB s sep) s).map Value.string).toArray).size⟩], _, rfl, ?_, ⟨_, _, last_loc H _, by omega, Nat.le_refl _, rfl, fun _ => rfl⟩, keeps_alloc H _⟩
        exact new_rel H _ 9 (0, 0) (take_self (by simpa using hr)) (by simp [hlen]) (.inr rfl)
      · cases he
    · cases he
  · cases he
def strsOf : List AV → Option (List ByteArray)
  | [] => some []
  | .s x :: r => match strsOf r with
    | some l => some (x :: l)
    | none => none
  | _ => none
theorem strsOf_eq : ∀ {c : List AV} {l : List ByteArray}, strsOf c = some l → c = l.map AV.s
  | [], l, h => by cases h; rfl
  | .s x :: r, l, h => by
    unfold strsOf at h
    split at h
    · rename_i l' hl
      cases h
      rw [List.map_cons, strsOf_eq hl]
    · cases h
def Cjoin : List AV → Hp → Option (AV × Hp) := fun args h => match args with
  | [.sn, .s sep] => some (.s ⟨#[]⟩, h)
  | [.sl id off len 1 cap, .s sep] => match h[id]? with
    | some (.cells c wr) => match strsOf ((c.drop off).take len) with
      | some xs => if xs.length = len ∧ 0 < len ∧ len ≤ 140737488355328 ∧ (Lib.join (xs.map (·.data.toList)) sep.data.toList).length ≤ 140737488355328 then some (.s ⟨(Lib.join (xs.map (·.data.toList)) sep.data.toList).toArray⟩, h) else none
      | none => none
    | _ => none
  | _ => none
theorem join_s : SoundF P 41 Cjoin := by
  intro args h r h' he own ρ w vs H ha
  unfold Cjoin at he
  split at he
  · rename_i sep
    simp only [Option.some.injEq, Prod.mk.injEq] at he
    obtain ⟨rfl, rfl⟩ := he
    obtain ⟨v0, _, rfl, h0, v1, _, rfl, h1, rfl⟩ := ha
    cases h0; cases h1
    refine (ClassShelf.strings_Join_none none 0 sep w).mono fun e w' hp => ?_
    obtain ⟨rfl, rfl⟩ := hp
    exact ⟨[], _, rfl, by rw [List.append_nil]; exact H, rfl, Keeps.refl _ _⟩
  · rename_i id off len cap sep
    split at he
    · rename_i c wr hc
      split at he
      · rename_i xs hxs
        split at he
        · rename_i hcond
          obtain ⟨hl, hpos, hlen, hjoin⟩ := hcond
          simp only [Option.some.injEq, Prod.mk.injEq] at he
          obtain ⟨rfl, rfl⟩ := he
          obtain ⟨v0, _, rfl, h0, v1, _, rfl, h1, rfl⟩ := ha
          cases h1
          obtain ⟨l, a, hl1, _, hcap, rfl, hat⟩ := h0
          have hat := hat (by omega)
          subst hat
          have hb := H.blk id _ l hc hl1
          have e := strsOf_eq hxs
          have hcl : (c.drop off).length = c.length - off := List.length_drop
          have hlen2 : ((c.drop off).take len).length = len := by rw [e, List.length_map, hl]
          rw [List.length_take, List.length_drop] at hlen2
          have hcells : ∀ (j : Nat) x, xs[j]? = some x → w.cell? ⟨l.blk, l.off + off + j, none⟩ = some (.string x) := by
            intro j x hj
            have hjl := (List.getElem?_eq_some_iff.1 hj).1
            have h3 : ((c.drop off).take len)[j]? = some (.s x) := by rw [e, List.getElem?_map, hj]; rfl
            rw [List.getElem?_take_of_lt (by omega), List.getElem?_drop] at h3
            obtain ⟨v, hv, hvr⟩ := hb.2.1 (off + j) _ h3
            cases hvr
            rw [show l.off + off + j = l.off + (off + j) by omega]
            exact hv
          have hsolid : (Blk.cells c wr).solid = true := by
            cases c with
            | nil => simp at hlen2; omega
            | cons x r => simp [Blk.solid]
          have hbk := H.lt id _ l hc hl1 hsolid
          have k := ClassShelf.strings_Join l.blk (l.off + off) (capOf l off 1 cap) xs sep w hcells hbk (by omega) (by omega) hjoin
          rw [hl] at k
          refine k.mono fun e w' hp => ?_
          obtain ⟨rfl, hB⟩ := hp
          refine ⟨[], _, rfl, ?_, rfl, keeps_of H hB⟩
          rw [List.append_nil]
          exact HRel.grow H hB.size (fun b hb => hB.block b hb)
        · cases he
      · cases he
    · cases he
  · cases he
def Ctz : List AV → Hp → Option (AV × Hp) := fun args h => match args with
  | [.i .u64 16] => some (.i .i64 4, h)
  | _ => none
theorem tz_s : SoundF P 91 Ctz := by
  intro args h r h' he own ρ w vs H ha
  unfold Ctz at he
  split at he
  · simp only [Option.some.injEq, Prod.mk.injEq] at he
    obtain ⟨rfl, rfl⟩ := he
    obtain ⟨v0, _, rfl, h0, rfl⟩ := ha
    cases h0
    refine (ClassTz.tz16 w (deBruijn_of H.glob)).mono fun e w' hp => ?_
    obtain ⟨rfl, rfl⟩ := hp
    exact ⟨[], _, rfl, by rw [List.append_nil]; exact H, rfl, Keeps.refl _ _⟩
  · cases he
noncomputable abbrev C0 : Env := with1 42 Ccut (with1 39 Csplit (with1 41 Cjoin (with1 32 Citoa (with1 91 Ctz noEnv))))
theorem C0_s : Sound P C0 := with1_sound (fnOkB_ok (by kernel_rfl)) cut_s (with1_sound (fnOkB_ok (by kernel_rfl)) split_s (with1_sound (fnOkB_ok (by kernel_rfl)) join_s (with1_sound (fnOkB_ok (by kernel_rfl)) itoa_s (with1_sound (fnOkB_ok (by kernel_rfl)) tz_s (noEnv_sound _)))))
end Go.Proofs.YtohaalilplngnaaDoor.ClassRun
