/- errors.As, and the judgement of an error -/
import Derived.Test.YtiknpjblmihmkaaDoorEngX
import Derived.Test.YtiknpjblmihmkaaDoorEngY
import Derived.Test.YtiknpjblmihmkaaDoorNumAs
set_option linter.unusedVariables false
set_option linter.unusedSimpArgs false
open Go Go.Proofs.YtiknpjblmihmkaaDoor.Eng Go.RowKit
namespace Go.Proofs.YtiknpjblmihmkaaDoor.NumRun
noncomputable abbrev P := Go.Proofs.Tryd.prog
def noW : Nat → Option Eng.Road := fun _ => none
def noL : Nat → Option Head := fun _ => none
/-- errors.As at the program's own kind of fault. -/
def Cas : List AV → Hp → Option (AV × Hp) := fun args h => match args with
  | [.ic 23 (.p e eo), .ic 70 (.p t to)] => match h[t]? with
    | some (.cells c true) => if to < c.length then some (.bo true, h.set t (.cells (c.set to (.p e eo)) true)) else none
    | _ => none
  | [.ic 23 .pn, .ic 70 (.p t to)] => match h[t]? with
    | some (.cells c true) => if to < c.length then some (.bo true, h.set t (.cells (c.set to .pn) true)) else none
    | _ => none
  | _ => none
def tof (C : List AV → Hp → Option (AV × Hp)) (args : List AV) (h : Hp) (K : AV → Hp → Prop) : Prop := match C args h with
  | some (r, h') => K r h'
  | none => False
theorem tof_f (C : List AV → Hp → Option (AV × Hp)) : FollowsF (tof C) C := by
  intro args h K hk
  unfold tof at hk
  split at hk
  · rename_i r h' e
    exact ⟨r, h', e, hk⟩
  · exact hk.elim
noncomputable abbrev TA : TEnv := tcons 30 (tof Cas) tnil
noncomputable abbrev TB : TEnv := tcons 14 (tinl P TA noW Go.Proofs.Tryd.f14) (tcons 12 (tinl P TA noW Go.Proofs.Tryd.f12) TA)
/-- Is an error the document's? -/
def Csame : List AV → Hp → Option (AV × Hp) := fun args h => match args with
  | [.ni, .i .i64 code, .i .i64 at_] => some (.bo (code == 0), h)
  | [.ic 23 (.p e 0), .i .i64 code, .i .i64 at_] => match h[e]? with
    | some (.cells [.i .i64 k, .i .i64 a] _) => some (.bo (!(code == 0) && (k == code && a == at_)), h)
    | _ => none
  | _ => none
theorem vc17n (code at_ : Int) (R : AV → Hp → Prop) : (wpFn P TB noW noL 0 Go.Proofs.Tryd.f17 [.ni, .i .i64 code, .i .i64 at_] [] R) = (br (code == (0 : Int)) (R (AV.bo true) [Blk.cells [AV.pn] true]) (R (AV.bo false) [])) := by kernel_rfl
theorem vc17f (code at_ k a : Int) (R : AV → Hp → Prop) : (wpFn P TB noW noL 1 Go.Proofs.Tryd.f17 [.ic 23 (.p 0 0), .i .i64 code, .i .i64 at_] [.cells [.i .i64 k, .i .i64 a] false] R) = (br (code == (0 : Int)) (R (AV.bo false) [Blk.cells [AV.i IntKind.i64 k, AV.i IntKind.i64 a] false]) (∃ (n : Int), Holds ([AV.i IntKind.i64 k, AV.i IntKind.i64 a][(0 : Nat)]? = some (AV.i IntKind.i64 n)) ∧ br (n == code) (∃ (n : Int), Holds ([AV.i IntKind.i64 k, AV.i IntKind.i64 a][(1 : Nat)]? = some (AV.i IntKind.i64 n)) ∧ br (n == at_) (∃ (n : Int), Holds ([AV.i IntKind.i64 k, AV.i IntKind.i64 a][(0 : Nat)]? = some (AV.i IntKind.i64 n)) ∧ br (n == code) (R (AV.bo true) [Blk.cells [AV.i IntKind.i64 k, AV.i IntKind.i64 a] false, Blk.cells [AV.p (0 : Nat) (0 : Nat)] true, Blk.cells [AV.p (0 : Nat) (0 : Nat)] true]) (R (AV.bo false) [Blk.cells [AV.i IntKind.i64 k, AV.i IntKind.i64 a] false, Blk.cells [AV.p (0 : Nat) (0 : Nat)] true])) (R (AV.bo false) [Blk.cells [AV.i IntKind.i64 k, AV.i IntKind.i64 a] false])) (R (AV.bo false) [Blk.cells [AV.i IntKind.i64 k, AV.i IntKind.i64 a] false]))) := by kernel_rfl
theorem HRel.grow {own : Nat → Prop} {ρ : List Eng.Loc} {h : Hp} {w w' : World} (H : HRel own ρ h w) (hs : w.heap.size ≤ w'.heap.size) (old : ∀ b, b < w.heap.size → w'.heap[b]? = w.heap[b]?) : HRel own ρ h w' :=
  ⟨H.glob.keep hs (fun b _ hb => old b hb), H.len, fun b hb => H.fresh b (Nat.le_trans hs hb), fun id B l m1 m2 => (H.blk id B l m1 m2).old fun hl => old _ (H.lt id B l m1 m2 hl), H.ours, fun id B l m1 m2 m3 => Nat.lt_of_lt_of_le (H.lt id B l m1 m2 m3) hs, H.sep⟩
theorem glob_cell {own : Nat → Prop} {w : World} (G : Glob own w) : w.cell? ⟨0, 0, none⟩ = some (.iface 89 (.agg #[.pointer (some ⟨4, 28, none⟩)])) := by
  obtain ⟨w0, h1, h2⟩ := G.base
  have e := h2 0 (by decide)
  have h1 : w0.cell? ⟨0, 0, none⟩ = some (.iface 89 (.agg #[.pointer (some ⟨4, 28, none⟩)])) := h1
  rw [← h1]
  exact cell_of_heap e
theorem as_core {h : Hp} {own : Nat → Prop} {ρ : List Eng.Loc} {w : World} {t to : Nat} {c : List AV} {lt : Eng.Loc} {x : AV} {q : Option Addr} (H : HRel own ρ h w) (hc : h[t]? = some (.cells c true)) (hlt : ρ[t]? = some lt) (hto : to < c.length) (hx : VRel ρ x (.pointer q)) :
    Calls P 30 #[.iface 23 (.pointer q), .iface 70 (.pointer (some (lt.at to)))] w fun e w' => ∃ σ z, e = .returned z ∧ HRel own (ρ ++ σ) (h.set t (.cells (c.set to x) true)) w' ∧ VRel (ρ ++ σ) (.bo true) z ∧ Keeps own w w' := by
  have hb := H.blk t _ lt hc hlt
  have hw := hb.2.2 rfl to (by have := hb.1; omega)
  obtain ⟨old, hold⟩ := Option.isSome_iff_exists.1 hw.1
  have k := NumAs.as_hit q (lt.at to) old w (glob_cell H.glob) hold hw.2
  refine k.mono fun ev w' hp => ?_
  obtain ⟨rfl, rfl⟩ := hp
  have old4 : ∀ (o1 o2 o3 o4 : Obj) (b : Nat), b < w.heap.size → ((((w.alloc o1).alloc o2).alloc o3).alloc o4).heap[b]? = w.heap[b]? := by
    intro o1 o2 o3 o4 b hb
    have s1 : (w.alloc o1).heap.size = w.heap.size + 1 := by simp
    have s2 : ((w.alloc o1).alloc o2).heap.size = w.heap.size + 2 := by simp
    have s3 : (((w.alloc o1).alloc o2).alloc o3).heap.size = w.heap.size + 3 := by simp
    exact (heap_alloc_old _ _ (by omega)).trans ((heap_alloc_old _ _ (by omega)).trans ((heap_alloc_old _ _ (by omega)).trans (heap_alloc_old _ _ hb)))
  have hs4 : ∀ (o1 o2 o3 o4 : Obj), w.heap.size ≤ ((((w.alloc o1).alloc o2).alloc o3).alloc o4).heap.size := by
    intro o1 o2 o3 o4; simp; omega
  have k4 : ∀ (o1 o2 o3 o4 : Obj), Keeps own w ((((w.alloc o1).alloc o2).alloc o3).alloc o4) := fun o1 o2 o3 o4 =>
    ⟨rfl, rfl, rfl, hs4 o1 o2 o3 o4, fun b hb => old4 o1 o2 o3 o4 b (Nat.lt_of_not_le fun hle' => hb (H.fresh b hle'))⟩
  have HA := fun (o1 o2 o3 o4 : Obj) => HRel.grow H (hs4 o1 o2 o3 o4) (old4 o1 o2 o3 o4)
  have W := fun (o1 o2 o3 o4 : Obj) => write_rel (HA o1 o2 o3 o4) hc hlt (off := to) («as» := [x]) (vs := [.pointer q]) ⟨_, _, rfl, hx, rfl⟩ (Nat.succ_le_of_lt hto)
  refine ⟨[], .bool true, rfl, ?_, rfl, ?_⟩
  · rw [List.append_nil]
    exact (W _ _ _ _).1
  · exact (k4 _ _ _ _).trans (W _ _ _ _).2
theorem as_s : SoundF P 30 Cas := by
  intro args h r h' he own ρ w vs H ha
  unfold Cas at he
  split at he
  · rename_i e eo t to
    split at he
    · rename_i c hc
      split at he
      · rename_i hto
        simp only [Option.some.injEq, Prod.mk.injEq] at he
        obtain ⟨rfl, rfl⟩ := he
        obtain ⟨v0, _, rfl, ⟨y0, rfl, hx⟩, v1, _, rfl, ⟨y1, rfl, lt, hlt, rfl⟩, rfl⟩ := ha
        obtain ⟨le, hle, rfl⟩ := hx
        exact as_core H hc hlt hto ⟨le, hle, rfl⟩
      · cases he
    · cases he
  · rename_i t to
    split at he
    · rename_i c hc
      split at he
      · rename_i hto
        simp only [Option.some.injEq, Prod.mk.injEq] at he
        obtain ⟨rfl, rfl⟩ := he
        obtain ⟨v0, _, rfl, ⟨y0, rfl, hx⟩, v1, _, rfl, ⟨y1, rfl, lt, hlt, rfl⟩, rfl⟩ := ha
        cases hx
        exact as_core H hc hlt hto rfl
      · cases he
    · cases he
  · cases he
theorem fn12 : fnOk1 P noW 12 Go.Proofs.Tryd.f12 := ⟨by kernel_rfl, rfl, by kernel_rfl, by kernel_rfl⟩
theorem fn14 : fnOk1 P noW 14 Go.Proofs.Tryd.f14 := ⟨by kernel_rfl, rfl, by kernel_rfl, by kernel_rfl⟩
theorem fn17 : fnOk1 P noW 17 Go.Proofs.Tryd.f17 := ⟨by kernel_rfl, rfl, by kernel_rfl, by kernel_rfl⟩
theorem mo : P.follows .mixedOrders = true := by kernel_rfl
noncomputable abbrev ΓA : Env := with1 30 Cas noEnv
theorem ΓA_s : Sound P ΓA := with1_sound (fnOkB_ok (by kernel_rfl)) as_s (noEnv_sound _)
theorem ΓA_f : Follows TA ΓA := follows_cons (tof_f _) (follows_nil _)
noncomputable abbrev ΓB : Env := with1 14 (Cinl P ΓA noW Go.Proofs.Tryd.f14) (with1 12 (Cinl P ΓA noW Go.Proofs.Tryd.f12) ΓA)
theorem ΓB_s : Sound P ΓB := with1_sound fn14.ok (inl_s ΓA_s mo fn14) (with1_sound fn12.ok (inl_s ΓA_s mo fn12) ΓA_s)
theorem ΓB_f : Follows TB ΓB := follows_cons (tinl_f ΓA_f fn14) (follows_cons (tinl_f ΓA_f fn12) ΓA_f)
theorem same_s : SoundF P 17 Csame := by
  refine SoundF.flat ΓB_f ΓB_s mo fn17 ?_
  intro args h r h' he
  unfold Csame at he
  split at he
  · simp only [Option.some.injEq, Prod.mk.injEq] at he
    obtain ⟨rfl, rfl⟩ := he
    refine ⟨rfl, rfl, [], noL, 0, by simp, ?_⟩
    show wpFn P TB noW noL 0 Go.Proofs.Tryd.f17 [.ni, .i .i64 _, .i .i64 _] [] _
    rw [vc17n]
    exact br_intro (fun h => by rw [h]) (fun h => by rw [h])
  · rename_i e code at_
    split at he
    · rename_i k a wr hc
      simp only [Option.some.injEq, Prod.mk.injEq] at he
      obtain ⟨rfl, rfl⟩ := he
      refine ⟨rfl, rfl, [e], noL, 1, by simpa using (List.getElem?_eq_some_iff.1 hc).1, ?_⟩
      have e1 : rens [e] [.ic 23 (.p e 0), .i .i64 code, .i .i64 at_] = [.ic 23 (.p 0 0), .i .i64 code, .i .i64 at_] := by simp [rens, ren, posOf]
      have e2 : pickH h [e] = [.cells [.i .i64 k, .i .i64 a] false] := by simp [pickH, renB, rens, ren, hc]
      rw [e1, e2, vc17f]
      refine br_intro (fun h => by rw [h]; rfl) (fun h => ⟨k, ⟨rfl⟩, br_intro (fun h2 => ⟨a, ⟨rfl⟩, br_intro (fun h3 => ⟨k, ⟨rfl⟩, br_intro (fun h4 => by rw [h, h2, h3]; rfl) (fun h4 => by rw [h2] at h4; cases h4)⟩) (fun h3 => by rw [h2, h3]; simp)⟩) (fun h2 => by rw [h2]; simp)⟩)
    · cases he
  · cases he
