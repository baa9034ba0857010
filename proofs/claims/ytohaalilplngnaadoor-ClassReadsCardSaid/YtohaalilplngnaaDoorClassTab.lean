/- Functions at given arguments: tables of answers, each by a run. -/
import Derived.Test.YtohaalilplngnaaDoorClassAwake
set_option linter.unusedVariables false
set_option linter.unusedSimpArgs false
open Go Go.Proofs.YtohaalilplngnaaDoor.Eng Go.RowKit
namespace Go.Proofs.YtohaalilplngnaaDoor.ClassRun
mutual
/-- Are two values that lead to no row the same? -/
def sameA : AV → AV → Bool
  | .bo a, .bo b => a == b
  | .i k n, .i l m => decide (k = l) && n == m
  | .s x, .s y => x.data.toList == y.data.toList
  | .ag x, .ag y => sameAs x y
  | .tu x, .tu y => sameAs x y
  | _, _ => false
def sameAs : List AV → List AV → Bool
  | [], [] => true
  | a :: x, b :: y => sameA a b && sameAs x y
  | _, _ => false
end
mutual
theorem sameA_eq : ∀ {a b : AV}, sameA a b = true → a = b
  | .bo a, .bo b, h => by simp [sameA] at h; rw [h]
  | .i k n, .i l m, h => by simp [sameA] at h; rw [h.1, h.2]
  | .s x, .s y, h => by
    simp [sameA] at h
    rw [show x = y from ByteArray.ext h]
  | .ag x, .ag y, h => by rw [sameAs_eq (show sameAs x y = true from h)]
  | .tu x, .tu y, h => by rw [sameAs_eq (show sameAs x y = true from h)]
  | .bad, _, h => by cases h
  | .pn, _, h => by cases h
  | .p _ _, _, h => by cases h
  | .sn, _, h => by cases h
  | .sl _ _ _ _ _, _, h => by cases h
  | .mn, _, h => by cases h
  | .m _, _, h => by cases h
  | .nf, _, h => by cases h
  | .ni, _, h => by cases h
  | .ic _ _, _, h => by cases h
  | .fn _ _, _, h => by cases h
  | .bo _, .bad, h => by cases h
  | .bo _, .i _ _, h => by cases h
  | .bo _, .s _, h => by cases h
  | .bo _, .pn, h => by cases h
  | .bo _, .p _ _, h => by cases h
  | .bo _, .sn, h => by cases h
  | .bo _, .sl _ _ _ _ _, h => by cases h
  | .bo _, .mn, h => by cases h
  | .bo _, .m _, h => by cases h
  | .bo _, .nf, h => by cases h
  | .bo _, .ni, h => by cases h
  | .bo _, .ic _ _, h => by cases h
  | .bo _, .fn _ _, h => by cases h
  | .bo _, .ag _, h => by cases h
  | .bo _, .tu _, h => by cases h
  | .i _ _, .bad, h => by cases h
  | .i _ _, .bo _, h => by cases h
  | .i _ _, .s _, h => by cases h
  | .i _ _, .pn, h => by cases h
  | .i _ _, .p _ _, h => by cases h
  | .i _ _, .sn, h => by cases h
  | .i _ _, .sl _ _ _ _ _, h => by cases h
  | .i _ _, .mn, h => by cases h
  | .i _ _, .m _, h => by cases h
  | .i _ _, .nf, h => by cases h
  | .i _ _, .ni, h => by cases h
  | .i _ _, .ic _ _, h => by cases h
  | .i _ _, .fn _ _, h => by cases h
  | .i _ _, .ag _, h => by cases h
  | .i _ _, .tu _, h => by cases h
  | .s _, .bad, h => by cases h
  | .s _, .bo _, h => by cases h
  | .s _, .i _ _, h => by cases h
  | .s _, .pn, h => by cases h
  | .s _, .p _ _, h => by cases h
  | .s _, .sn, h => by cases h
  | .s _, .sl _ _ _ _ _, h => by cases h
  | .s _, .mn, h => by cases h
  | .s _, .m _, h => by cases h
  | .s _, .nf, h => by cases h
  | .s _, .ni, h => by cases h
  | .s _, .ic _ _, h => by cases h
  | .s _, .fn _ _, h => by cases h
  | .s _, .ag _, h => by cases h
  | .s _, .tu _, h => by cases h
  | .ag _, .bad, h => by cases h
  | .ag _, .bo _, h => by cases h
  | .ag _, .i _ _, h => by cases h
  | .ag _, .s _, h => by cases h
  | .ag _, .pn, h => by cases h
  | .ag _, .p _ _, h => by cases h
  | .ag _, .sn, h => by cases h
  | .ag _, .sl _ _ _ _ _, h => by cases h
  | .ag _, .mn, h => by cases h
  | .ag _, .m _, h => by cases h
  | .ag _, .nf, h => by cases h
  | .ag _, .ni, h => by cases h
  | .ag _, .ic _ _, h => by cases h
  | .ag _, .fn _ _, h => by cases h
  | .ag _, .tu _, h => by cases h
  | .tu _, .bad, h => by cases h
  | .tu _, .bo _, h => by cases h
  | .tu _, .i _ _, h => by cases h
  | .tu _, .s _, h => by cases h
  | .tu _, .pn, h => by cases h
  | .tu _, .p _ _, h => by cases h
  | .tu _, .sn, h => by cases h
  | .tu _, .sl _ _ _ _ _, h => by cases h
  | .tu _, .mn, h => by cases h
  | .tu _, .m _, h => by cases h
  | .tu _, .nf, h => by cases h
  | .tu _, .ni, h => by cases h
  | .tu _, .ic _ _, h => by cases h
  | .tu _, .fn _ _, h => by cases h
  | .tu _, .ag _, h => by cases h
theorem sameAs_eq : ∀ {x y : List AV}, sameAs x y = true → x = y
  | [], [], _ => rfl
  | a :: x, b :: y, h => by
    have h : (sameA a b && sameAs x y) = true := h
    rw [Bool.and_eq_true] at h
    rw [sameA_eq h.1, sameAs_eq h.2]
  | [], _ :: _, h => by cases h
  | _ :: _, [], h => by cases h
end
/-- What a run answers. -/
def isRes (r : Option (AV × Hp)) (v : AV) : Bool := match r with
  | some (u, _) => sameA u v
  | none => false
theorem isRes_spec {r : Option (AV × Hp)} {v : AV} (h : isRes r v = true) : ∃ h', r = some (v, h') := by
  unfold isRes at h
  split at h
  · rename_i u h'
    exact ⟨h', by rw [sameA_eq h]⟩
  · cases h
def Ctab (tbl : List (List AV × AV)) : List AV → Hp → Option (AV × Hp) := fun args h => match tbl.find? fun q => sameAs q.1 args with
  | some q => some (q.2, h)
  | none => none
/-- Each row of the table by a run. -/
structure Row (Γ : Env) (f : FuncId) (q : List AV × AV) : Prop where
  args : AV.unders 0 q.1 = true
  res : q.2.under 0 = true
  run : isRes (Γ f q.1 []) q.2 = true
theorem VRels.drop0 {ρ : List Eng.Loc} {xs : List AV} {vs : List Value} (hu : AV.unders 0 xs = true) (h : VRels ρ xs vs) : VRels [] xs vs :=
  VRels.less (ρ := []) (σ := ρ) (by simpa using hu) (by simpa using h)
theorem SoundF.table {P : Program} {Γ : Env} (hΓ : Sound P Γ) {f : FuncId} (hf : FnOk P f) {tbl : List (List AV × AV)} (ht : ∀ q ∈ tbl, Row Γ f q) : SoundF P f (Ctab tbl) := by
  intro args h v h2 hc own ρ w vs H ha
  unfold Ctab at hc
  split at hc
  · rename_i q hq
    simp only [Option.some.injEq, Prod.mk.injEq] at hc
    obtain ⟨rfl, rfl⟩ := hc
    have hm := ht q (List.mem_of_find?_eq_some hq)
    have he := sameAs_eq (List.find?_some (p := fun q : List AV × AV => sameAs q.1 args) hq)
    subst he
    obtain ⟨h1, hr⟩ := isRes_spec hm.run
    refine (calls_nothing hΓ hr (vs := vs) (VRels.drop0 hm.args ha) w hf H.glob.over).mono fun e w' hp => ?_
    obtain ⟨σ, z, rfl, k1, k2, k3⟩ := hp
    refine ⟨[], z, rfl, ?_, ?_, keeps_of H k3⟩
    · rw [List.append_nil]
      exact HRel.grow H k3.size (fun b hb => k3.block b hb)
    · rw [List.append_nil]
      have h0 : VRel [] q.2 z := VRel.less (ρ := []) (σ := σ) (by simpa using hm.res) (by simpa using k2)
      have := h0.more (ρ := []) ρ
      simpa using this
  · cases hc
end Go.Proofs.YtohaalilplngnaaDoor.ClassRun
