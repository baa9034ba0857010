/- The document's words of six-prefixes: each call by a run. -/
import Derived.Test.YtohaalilplngnaaDoorClassWrd
set_option linter.unusedVariables false
open Go Go.Proofs.YtohaalilplngnaaDoor.Eng Go.RowKit
namespace Go.Proofs.YtohaalilplngnaaDoor.ClassRun
def q31_0 : List AV × AV := ([.s ⟨#[58, 58, 47, 49, 50, 56]⟩], .tu [.ag [.i .u8 0, .i .u8 0, .i .u8 0, .i .u8 0, .i .u8 0, .i .u8 0, .i .u8 0, .i .u8 0, .i .u8 0, .i .u8 0, .i .u8 0, .i .u8 0, .i .u8 0, .i .u8 0, .i .u8 0, .i .u8 0, .i .i64 128], .bo true])
set_option maxRecDepth 10000000 in
theorem r31_0 : Row ΓRef 31 q31_0 := ⟨rfl, rfl, by kernel_rfl⟩
def q31_1 : List AV × AV := ([.s ⟨#[58, 58, 49, 47, 49, 50, 56]⟩], .tu [.ag [.i .u8 0, .i .u8 0, .i .u8 0, .i .u8 0, .i .u8 0, .i .u8 0, .i .u8 0, .i .u8 0, .i .u8 0, .i .u8 0, .i .u8 0, .i .u8 0, .i .u8 0, .i .u8 0, .i .u8 0, .i .u8 1, .i .i64 128], .bo true])
set_option maxRecDepth 10000000 in
theorem r31_1 : Row ΓRef 31 q31_1 := ⟨rfl, rfl, by kernel_rfl⟩
def q31_2 : List AV × AV := ([.s ⟨#[58, 58, 102, 102, 102, 102, 58, 48, 58, 48, 47, 57, 54]⟩], .tu [.ag [.i .u8 0, .i .u8 0, .i .u8 0, .i .u8 0, .i .u8 0, .i .u8 0, .i .u8 0, .i .u8 0, .i .u8 0, .i .u8 0, .i .u8 255, .i .u8 255, .i .u8 0, .i .u8 0, .i .u8 0, .i .u8 0, .i .i64 96], .bo true])
set_option maxRecDepth 10000000 in
theorem r31_2 : Row ΓRef 31 q31_2 := ⟨rfl, rfl, by kernel_rfl⟩
def q31_3 : List AV × AV := ([.s ⟨#[102, 101, 56, 48, 58, 58, 47, 49, 48]⟩], .tu [.ag [.i .u8 254, .i .u8 128, .i .u8 0, .i .u8 0, .i .u8 0, .i .u8 0, .i .u8 0, .i .u8 0, .i .u8 0, .i .u8 0, .i .u8 0, .i .u8 0, .i .u8 0, .i .u8 0, .i .u8 0, .i .u8 0, .i .i64 10], .bo true])
set_option maxRecDepth 10000000 in
theorem r31_3 : Row ΓRef 31 q31_3 := ⟨rfl, rfl, by kernel_rfl⟩
def q31_4 : List AV × AV := ([.s ⟨#[102, 102, 48, 48, 58, 58, 47, 56]⟩], .tu [.ag [.i .u8 255, .i .u8 0, .i .u8 0, .i .u8 0, .i .u8 0, .i .u8 0, .i .u8 0, .i .u8 0, .i .u8 0, .i .u8 0, .i .u8 0, .i .u8 0, .i .u8 0, .i .u8 0, .i .u8 0, .i .u8 0, .i .i64 8], .bo true])
set_option maxRecDepth 10000000 in
theorem r31_4 : Row ΓRef 31 q31_4 := ⟨rfl, rfl, by kernel_rfl⟩
def q31_5 : List AV × AV := ([.s ⟨#[54, 52, 58, 102, 102, 57, 98, 58, 58, 47, 57, 54]⟩], .tu [.ag [.i .u8 0, .i .u8 100, .i .u8 255, .i .u8 155, .i .u8 0, .i .u8 0, .i .u8 0, .i .u8 0, .i .u8 0, .i .u8 0, .i .u8 0, .i .u8 0, .i .u8 0, .i .u8 0, .i .u8 0, .i .u8 0, .i .i64 96], .bo true])
set_option maxRecDepth 10000000 in
theorem r31_5 : Row ΓRef 31 q31_5 := ⟨rfl, rfl, by kernel_rfl⟩
def tab31 : List (List AV × AV) := [q31_0, q31_1, q31_2, q31_3, q31_4, q31_5]
theorem tab31_s : SoundF P 31 (Ctab tab31) := SoundF.table ΓRef_s (fnOkB_ok (by kernel_rfl)) (by
  intro q hq
  simp only [tab31, List.mem_cons, List.not_mem_nil, or_false] at hq
  rcases hq with rfl | rfl | rfl | rfl | rfl | rfl
  · exact r31_0
  · exact r31_1
  · exact r31_2
  · exact r31_3
  · exact r31_4
  · exact r31_5)
end Go.Proofs.YtohaalilplngnaaDoor.ClassRun
