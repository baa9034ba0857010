/- Small laws. -/
import Derived.Test.YtfnbbgnknkondaaEngY
import Derived.Test.YtfnbbgnknkondaaEngX
import Derived.Test.YtfnbbgnknkondaaProg
set_option linter.unusedVariables false
set_option linter.unusedSimpArgs false
open Go Go.Proofs.Ytfnbbgnknkondaa.Eng Go.RowKit
namespace Go.Proofs.Ytfnbbgnknkondaa.RulesRun
noncomputable abbrev P : Program := Go.Proofs.Try.prog
def noW : Nat → Option Eng.Road := fun _ => none
def noL : Nat → Option Head := fun _ => none
theorem mo : P.follows .mixedOrders = true := by kernel_rfl
def bads (n : Nat) : List AV := List.replicate n .bad
theorem holds_eq {p : Prop} : Holds p = p := propext ⟨Holds.out, Holds.mk⟩
theorem i64w {x : Int} (h0 : -9223372036854775808 ≤ x) (h1 : x ≤ 9223372036854775807) : IntKind.wrap .i64 x = x := IntWalk.i64_in _ ⟨by omega, by omega⟩
theorem wrap8 (x : Int) : IntKind.wrap .u8 x = x % 256 := by simp [IntKind.wrap, IntKind.bits, IntKind.signed]
theorem size_list (s : ByteArray) : s.data.toList.length = s.size := by rw [Array.length_toList]; rfl
theorem append_list (a b : ByteArray) : (a ++ b).data.toList = a.data.toList ++ b.data.toList := by
  rw [ByteArray.data_append, Array.toList_append]
theorem extract_list (s : ByteArray) (a b : Nat) : (s.extract a b).data.toList = (s.data.toList.take b).drop a := by
  rw [ByteArray.data_extract, Array.toList_extract, List.extract_eq_take_drop, List.drop_take]
theorem fd (x : Int) (n : Int) (h : 0 ≤ n) : Int.fdiv x n = x / n := Int.fdiv_eq_ediv_of_nonneg _ h
theorem br_ite {b : Bool} {A B : Prop} : br b A B = if b = true then A else B := by cases b <;> rfl
theorem bget (s : ByteArray) (i : Nat) : s[i]? = s.data.toList[i]? := by
  by_cases h : i < s.size
  · rw [getElem?_pos s i h, List.getElem?_eq_getElem (by rw [size_list]; exact h)]; rfl
  · rw [getElem?_neg s i h, List.getElem?_eq_none (by rw [size_list]; omega)]
theorem byte_lt (b : UInt8) : (b.toNat : Int) < 256 := by have := b.toNat_lt; omega
theorem list_beq (a b : ByteArray) : (a.toList == b.toList) = decide (a = b) := by
  rw [ByteArray.toList_eq, ByteArray.toList_eq, Bool.eq_iff_iff]
  simp only [beq_iff_eq, decide_eq_true_eq]
  exact ⟨fun h => ByteArray.ext (Array.toList_inj.1 h), fun h => by rw [h]⟩
theorem size_zero {s : ByteArray} : s.size = 0 ↔ s = ⟨#[]⟩ := ⟨fun h => ByteArray.ext (Array.size_eq_zero_iff.1 h), fun h => by rw [h]; rfl⟩
/-- Nothing is read of a state. -/
def Get.none : Get Bool := ⟨fun _ K => K true, fun _ _ h => ⟨_, h⟩⟩
end Go.Proofs.Ytfnbbgnknkondaa.RulesRun
