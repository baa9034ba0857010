/- The document's words of prefixes: each call by a run. -/
import Derived.Test.YtohaalilplngnaaDoorClassTab
set_option linter.unusedVariables false
open Go Go.Proofs.YtohaalilplngnaaDoor.Eng Go.RowKit
namespace Go.Proofs.YtohaalilplngnaaDoor.ClassRun
def Wr : FuncId → Nat → Option Eng.Road
  | 30, 5 => some ⟨some ([], (.pure 1 (.pure 2 (.old 0 (.old 3 (.two 4 (.pure 5 (.eff 6 .nil)) 6 (.eff 4 (.pure 5 .nil)) .nil)))))), (.eff 7 .nil)⟩
  | 31, 5 => some ⟨some ([], (.pure 1 (.pure 2 (.old 0 (.old 3 (.two 4 (.pure 5 (.eff 6 .nil)) 6 (.eff 4 (.pure 5 .nil)) .nil)))))), (.eff 7 .nil)⟩
  | _, _ => none
noncomputable def ΓRef : Env := envN P Wr 140 [27, 28, 30, 31, 33, 34, 51, 52, 53, 55, 69] [] C0 16
theorem ΓRef_s : Sound P ΓRef := envN_sound (by kernel_rfl) (by kernel_rfl) C0_s _
def q30_0 : List AV × AV := ([.s ⟨#[48, 46, 48, 46, 48, 46, 48, 47, 56]⟩], .tu [.ag [.i .u8 0, .i .u8 0, .i .u8 0, .i .u8 0, .i .i64 8], .bo true])
set_option maxRecDepth 10000000 in
theorem r30_0 : Row ΓRef 30 q30_0 := ⟨rfl, rfl, by kernel_rfl⟩
def q30_1 : List AV × AV := ([.s ⟨#[49, 50, 55, 46, 48, 46, 48, 46, 48, 47, 56]⟩], .tu [.ag [.i .u8 127, .i .u8 0, .i .u8 0, .i .u8 0, .i .i64 8], .bo true])
set_option maxRecDepth 10000000 in
theorem r30_1 : Row ΓRef 30 q30_1 := ⟨rfl, rfl, by kernel_rfl⟩
def q30_2 : List AV × AV := ([.s ⟨#[49, 54, 57, 46, 50, 53, 52, 46, 48, 46, 48, 47, 49, 54]⟩], .tu [.ag [.i .u8 169, .i .u8 254, .i .u8 0, .i .u8 0, .i .i64 16], .bo true])
set_option maxRecDepth 10000000 in
theorem r30_2 : Row ΓRef 30 q30_2 := ⟨rfl, rfl, by kernel_rfl⟩
def q30_3 : List AV × AV := ([.s ⟨#[50, 50, 52, 46, 48, 46, 48, 46, 48, 47, 52]⟩], .tu [.ag [.i .u8 224, .i .u8 0, .i .u8 0, .i .u8 0, .i .i64 4], .bo true])
set_option maxRecDepth 10000000 in
theorem r30_3 : Row ΓRef 30 q30_3 := ⟨rfl, rfl, by kernel_rfl⟩
def q30_4 : List AV × AV := ([.s ⟨#[50, 52, 48, 46, 48, 46, 48, 46, 48, 47, 52]⟩], .tu [.ag [.i .u8 240, .i .u8 0, .i .u8 0, .i .u8 0, .i .i64 4], .bo true])
set_option maxRecDepth 10000000 in
theorem r30_4 : Row ΓRef 30 q30_4 := ⟨rfl, rfl, by kernel_rfl⟩
def q30_5 : List AV × AV := ([.s ⟨#[49, 48, 46, 48, 46, 48, 46, 48, 47, 56]⟩], .tu [.ag [.i .u8 10, .i .u8 0, .i .u8 0, .i .u8 0, .i .i64 8], .bo true])
set_option maxRecDepth 10000000 in
theorem r30_5 : Row ΓRef 30 q30_5 := ⟨rfl, rfl, by kernel_rfl⟩
def q30_6 : List AV × AV := ([.s ⟨#[49, 55, 50, 46, 49, 54, 46, 48, 46, 48, 47, 49, 50]⟩], .tu [.ag [.i .u8 172, .i .u8 16, .i .u8 0, .i .u8 0, .i .i64 12], .bo true])
set_option maxRecDepth 10000000 in
theorem r30_6 : Row ΓRef 30 q30_6 := ⟨rfl, rfl, by kernel_rfl⟩
def q30_7 : List AV × AV := ([.s ⟨#[49, 57, 50, 46, 49, 54, 56, 46, 48, 46, 48, 47, 49, 54]⟩], .tu [.ag [.i .u8 192, .i .u8 168, .i .u8 0, .i .u8 0, .i .i64 16], .bo true])
set_option maxRecDepth 10000000 in
theorem r30_7 : Row ΓRef 30 q30_7 := ⟨rfl, rfl, by kernel_rfl⟩
def q30_8 : List AV × AV := ([.s ⟨#[49, 48, 48, 46, 54, 52, 46, 48, 46, 48, 47, 49, 48]⟩], .tu [.ag [.i .u8 100, .i .u8 64, .i .u8 0, .i .u8 0, .i .i64 10], .bo true])
set_option maxRecDepth 10000000 in
theorem r30_8 : Row ΓRef 30 q30_8 := ⟨rfl, rfl, by kernel_rfl⟩
def tab30 : List (List AV × AV) := [q30_0, q30_1, q30_2, q30_3, q30_4, q30_5, q30_6, q30_7, q30_8]
theorem tab30_s : SoundF P 30 (Ctab tab30) := SoundF.table ΓRef_s (fnOkB_ok (by kernel_rfl)) (by
  intro q hq
  simp only [tab30, List.mem_cons, List.not_mem_nil, or_false] at hq
  rcases hq with rfl | rfl | rfl | rfl | rfl | rfl | rfl | rfl | rfl
  · exact r30_0
  · exact r30_1
  · exact r30_2
  · exact r30_3
  · exact r30_4
  · exact r30_5
  · exact r30_6
  · exact r30_7
  · exact r30_8)
end Go.Proofs.YtohaalilplngnaaDoor.ClassRun
