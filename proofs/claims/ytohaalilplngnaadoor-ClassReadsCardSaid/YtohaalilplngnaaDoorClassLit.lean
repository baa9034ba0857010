/- The chapter's examples: each call by a run. -/
import Derived.Test.YtohaalilplngnaaDoorClassTab
set_option linter.unusedVariables false
open Go Go.Proofs.YtohaalilplngnaaDoor.Eng Go.RowKit
namespace Go.Proofs.YtohaalilplngnaaDoor.ClassRun
noncomputable def ΓL : Env := envN P Wn 60 [13, 14, 15, 16, 18, 24, 26, 29, 40, 43, 44, 45, 46, 47, 49, 50, 58, 63, 64, 65, 66, 67, 68, 76, 77, 78, 79, 80, 90] [] C0 16
theorem ΓL_s : Sound P ΓL := envN_sound (by kernel_rfl) (by kernel_rfl) C0_s _
def q16_0 : List AV × AV := ([.ag [.i .u8 32, .i .u8 1, .i .u8 13, .i .u8 184, .i .u8 0, .i .u8 0, .i .u8 0, .i .u8 0, .i .u8 0, .i .u8 1, .i .u8 0, .i .u8 0, .i .u8 0, .i .u8 0, .i .u8 0, .i .u8 1]], .s ⟨#[50, 48, 48, 49, 58, 100, 98, 56, 58, 58, 49, 58, 48, 58, 48, 58, 49]⟩)
set_option maxRecDepth 10000000 in
theorem r16_0 : Row ΓL 16 q16_0 := ⟨rfl, rfl, by kernel_rfl⟩
def q16_1 : List AV × AV := ([.ag [.i .u8 0, .i .u8 0, .i .u8 0, .i .u8 0, .i .u8 0, .i .u8 0, .i .u8 0, .i .u8 0, .i .u8 0, .i .u8 0, .i .u8 0, .i .u8 0, .i .u8 0, .i .u8 0, .i .u8 0, .i .u8 0]], .s ⟨#[58, 58]⟩)
set_option maxRecDepth 10000000 in
theorem r16_1 : Row ΓL 16 q16_1 := ⟨rfl, rfl, by kernel_rfl⟩
def q16_2 : List AV × AV := ([.ag [.i .u8 0, .i .u8 0, .i .u8 0, .i .u8 0, .i .u8 0, .i .u8 1, .i .u8 0, .i .u8 1, .i .u8 0, .i .u8 1, .i .u8 0, .i .u8 1, .i .u8 0, .i .u8 1, .i .u8 0, .i .u8 1]], .s ⟨#[58, 58, 49, 58, 49, 58, 49, 58, 49, 58, 49, 58, 49]⟩)
set_option maxRecDepth 10000000 in
theorem r16_2 : Row ΓL 16 q16_2 := ⟨rfl, rfl, by kernel_rfl⟩
def q16_3 : List AV × AV := ([.ag [.i .u8 0, .i .u8 1, .i .u8 0, .i .u8 0, .i .u8 0, .i .u8 1, .i .u8 0, .i .u8 1, .i .u8 0, .i .u8 1, .i .u8 0, .i .u8 1, .i .u8 0, .i .u8 1, .i .u8 0, .i .u8 1]], .s ⟨#[49, 58, 48, 58, 49, 58, 49, 58, 49, 58, 49, 58, 49, 58, 49]⟩)
set_option maxRecDepth 10000000 in
theorem r16_3 : Row ΓL 16 q16_3 := ⟨rfl, rfl, by kernel_rfl⟩
def tab16 : List (List AV × AV) := [q16_0, q16_1, q16_2, q16_3]
theorem tab16_s : SoundF P 16 (Ctab tab16) := SoundF.table ΓL_s (fnOkB_ok (by kernel_rfl)) (by
  intro q hq
  simp only [tab16, List.mem_cons, List.not_mem_nil, or_false] at hq
  rcases hq with rfl | rfl | rfl | rfl
  · exact r16_0
  · exact r16_1
  · exact r16_2
  · exact r16_3)
def q15_0 : List AV × AV := ([.s ⟨#[49, 58, 58, 50, 58, 58, 51]⟩], .tu [.ag [.i .u8 0, .i .u8 0, .i .u8 0, .i .u8 0, .i .u8 0, .i .u8 0, .i .u8 0, .i .u8 0, .i .u8 0, .i .u8 0, .i .u8 0, .i .u8 0, .i .u8 0, .i .u8 0, .i .u8 0, .i .u8 0], .bo false])
set_option maxRecDepth 10000000 in
theorem r15_0 : Row ΓL 15 q15_0 := ⟨rfl, rfl, by kernel_rfl⟩
def q15_1 : List AV × AV := ([.s ⟨#[49, 58, 50, 58, 51, 58, 52, 58, 53, 58, 54, 58, 55, 58, 58, 56]⟩], .tu [.ag [.i .u8 0, .i .u8 0, .i .u8 0, .i .u8 0, .i .u8 0, .i .u8 0, .i .u8 0, .i .u8 0, .i .u8 0, .i .u8 0, .i .u8 0, .i .u8 0, .i .u8 0, .i .u8 0, .i .u8 0, .i .u8 0], .bo false])
set_option maxRecDepth 10000000 in
theorem r15_1 : Row ΓL 15 q15_1 := ⟨rfl, rfl, by kernel_rfl⟩
def tab15 : List (List AV × AV) := [q15_0, q15_1]
theorem tab15_s : SoundF P 15 (Ctab tab15) := SoundF.table ΓL_s (fnOkB_ok (by kernel_rfl)) (by
  intro q hq
  simp only [tab15, List.mem_cons, List.not_mem_nil, or_false] at hq
  rcases hq with rfl | rfl
  · exact r15_0
  · exact r15_1)
def q13_0 : List AV × AV := ([.s ⟨#[49, 46, 50, 46, 51, 46, 48, 52]⟩], .tu [.ag [.i .u8 0, .i .u8 0, .i .u8 0, .i .u8 0], .bo false])
set_option maxRecDepth 10000000 in
theorem r13_0 : Row ΓL 13 q13_0 := ⟨rfl, rfl, by kernel_rfl⟩
def q13_1 : List AV × AV := ([.s ⟨#[49, 46, 50, 46, 51, 46, 50, 53, 54]⟩], .tu [.ag [.i .u8 0, .i .u8 0, .i .u8 0, .i .u8 0], .bo false])
set_option maxRecDepth 10000000 in
theorem r13_1 : Row ΓL 13 q13_1 := ⟨rfl, rfl, by kernel_rfl⟩
def tab13 : List (List AV × AV) := [q13_0, q13_1]
theorem tab13_s : SoundF P 13 (Ctab tab13) := SoundF.table ΓL_s (fnOkB_ok (by kernel_rfl)) (by
  intro q hq
  simp only [tab13, List.mem_cons, List.not_mem_nil, or_false] at hq
  rcases hq with rfl | rfl
  · exact r13_0
  · exact r13_1)
def q29_0 : List AV × AV := ([.s ⟨#[49, 48, 46, 48, 46, 48, 46, 48, 47, 56]⟩], .tu [.ag [.i .u8 10, .i .u8 0, .i .u8 0, .i .u8 0, .i .i64 8], .bo true])
set_option maxRecDepth 10000000 in
theorem r29_0 : Row ΓL 29 q29_0 := ⟨rfl, rfl, by kernel_rfl⟩
def q29_1 : List AV × AV := ([.s ⟨#[49, 48, 46, 48, 46, 48, 46, 49, 47, 56]⟩], .tu [.ag [.i .u8 0, .i .u8 0, .i .u8 0, .i .u8 0, .i .i64 0], .bo false])
set_option maxRecDepth 10000000 in
theorem r29_1 : Row ΓL 29 q29_1 := ⟨rfl, rfl, by kernel_rfl⟩
def tab29 : List (List AV × AV) := [q29_0, q29_1]
theorem tab29_s : SoundF P 29 (Ctab tab29) := SoundF.table ΓL_s (fnOkB_ok (by kernel_rfl)) (by
  intro q hq
  simp only [tab29, List.mem_cons, List.not_mem_nil, or_false] at hq
  rcases hq with rfl | rfl
  · exact r29_0
  · exact r29_1)
def q24_0 : List AV × AV := ([.s ⟨#[54, 52, 58, 102, 102, 57, 98, 58, 58, 47, 57, 54]⟩], .tu [.ag [.i .u8 0, .i .u8 100, .i .u8 255, .i .u8 155, .i .u8 0, .i .u8 0, .i .u8 0, .i .u8 0, .i .u8 0, .i .u8 0, .i .u8 0, .i .u8 0, .i .u8 0, .i .u8 0, .i .u8 0, .i .u8 0, .i .i64 96], .bo true])
set_option maxRecDepth 10000000 in
theorem r24_0 : Row ΓL 24 q24_0 := ⟨rfl, rfl, by kernel_rfl⟩
def tab24 : List (List AV × AV) := [q24_0]
theorem tab24_s : SoundF P 24 (Ctab tab24) := SoundF.table ΓL_s (fnOkB_ok (by kernel_rfl)) (by
  intro q hq
  simp only [tab24, List.mem_cons, List.not_mem_nil, or_false] at hq
  rcases hq with rfl
  · exact r24_0)
end Go.Proofs.YtohaalilplngnaaDoor.ClassRun
