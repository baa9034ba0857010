/- Small laws. -/
import Derived.Test.YtohaalilplngnaaDoorClassLit
set_option linter.unusedVariables false
set_option linter.unusedSimpArgs false
open Go Go.Proofs.YtohaalilplngnaaDoor.Eng Go.RowKit
namespace Go.Proofs.YtohaalilplngnaaDoor.ClassRun
theorem holds_eq {p : Prop} : Holds p = p := propext ⟨Holds.out, Holds.mk⟩
theorem numsOf_one (n : Int) : numsOf [AV.i .u8 n] = some [n] := rfl
theorem numsOf_four (a b c d : Int) : numsOf [AV.i .u8 a, .i .u8 b, .i .u8 c, .i .u8 d] = some [a, b, c, d] := rfl
theorem i64w {x : Int} (h0 : -9223372036854775808 ≤ x) (h1 : x ≤ 9223372036854775807) : IntKind.wrap .i64 x = x := IntWalk.i64_in _ ⟨by omega, by omega⟩
theorem wrap8 (x : Int) : IntKind.wrap .u8 x = x % 256 := by simp [IntKind.wrap, IntKind.bits, IntKind.signed]
theorem size_list (s : ByteArray) : s.data.toList.length = s.size := by rw [Array.length_toList]; rfl
theorem textOf_size (a : List Int) : (textOf a).size = a.length := by rw [← size_list]; simp [textOf]
theorem append_list (a b : ByteArray) : (a ++ b).data.toList = a.data.toList ++ b.data.toList := by
  rw [ByteArray.data_append, Array.toList_append]
theorem textOf_append (a b : List Int) : textOf a ++ textOf b = textOf (a ++ b) := by
  apply ByteArray.ext
  apply Array.toList_inj.1
  rw [append_list]; simp [textOf]
theorem textOf_list (a : List Int) : (textOf a).data.toList = a.map fun n => UInt8.ofNat n.toNat := by simp [textOf]
theorem extract_list (s : ByteArray) (a b : Nat) : (s.extract a b).data.toList = (s.data.toList.take b).drop a := by
  rw [ByteArray.data_extract, Array.toList_extract, List.extract_eq_take_drop, List.drop_take]
theorem fd (x : Int) (n : Int) (h : 0 ≤ n) : Int.fdiv x n = x / n := Int.fdiv_eq_ediv_of_nonneg _ h
theorem bits64 : IntKind.bits .i64 = 64 := rfl
theorem br_ite {b : Bool} {A B : Prop} : br b A B = if b = true then A else B := by cases b <;> rfl
theorem bget (s : ByteArray) (i : Nat) : s[i]? = s.data.toList[i]? := by
  by_cases h : i < s.size
  · rw [getElem?_pos s i h, List.getElem?_eq_getElem (by rw [size_list]; exact h)]; rfl
  · rw [getElem?_neg s i h, List.getElem?_eq_none (by rw [size_list]; omega)]
theorem byte_lt (b : UInt8) : (b.toNat : Int) < 256 := by have := b.toNat_lt; omega
end Go.Proofs.YtohaalilplngnaaDoor.ClassRun
