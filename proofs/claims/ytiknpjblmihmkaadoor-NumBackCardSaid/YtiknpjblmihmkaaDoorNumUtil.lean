/- Small laws. -/
import Derived.Test.YtiknpjblmihmkaaDoorNumAwake
set_option linter.unusedVariables false
set_option linter.unusedSimpArgs false
open Go Go.Proofs.YtiknpjblmihmkaaDoor.Eng Go.RowKit
namespace Go.Proofs.YtiknpjblmihmkaaDoor.NumRun
theorem holds_eq {p : Prop} : Holds p = p := propext ⟨Holds.out, Holds.mk⟩
theorem numsOf_one (n : Int) : numsOf [AV.i .u8 n] = some [n] := rfl
theorem numsOf_four (a b c d : Int) : numsOf [AV.i .u8 a, .i .u8 b, .i .u8 c, .i .u8 d] = some [a, b, c, d] := rfl
theorem i64w {x : Int} (h0 : -9223372036854775808 ≤ x) (h1 : x ≤ 9223372036854775807) : IntKind.wrap .i64 x = x := IntWalk.i64_in _ ⟨by omega, by omega⟩
theorem wrap8 (x : Int) : IntKind.wrap .u8 x = x % 256 := by simp [IntKind.wrap, IntKind.bits, IntKind.signed]
def putL : Int → Nat → List Int
  | _, 0 => []
  | x, n + 1 => putL (x / 256) n ++ [x % 256]
def Lb (q : Int × Int) : ByteArray := textOf (putL q.1 q.2.toNat)
theorem size_list (s : ByteArray) : s.data.toList.length = s.size := by rw [Array.length_toList]; rfl
theorem textOf_size (a : List Int) : (textOf a).size = a.length := by rw [← size_list]; simp [textOf]
theorem putL_len : ∀ (n : Nat) (x : Int), (putL x n).length = n
  | 0, x => rfl
  | n + 1, x => by rw [putL, List.length_append, putL_len n]; rfl
theorem append_list (a b : ByteArray) : (a ++ b).data.toList = a.data.toList ++ b.data.toList := by
  rw [ByteArray.data_append, Array.toList_append]
theorem textOf_append (a b : List Int) : textOf a ++ textOf b = textOf (a ++ b) := by
  apply ByteArray.ext
  apply Array.toList_inj.1
  rw [append_list]; simp [textOf]
theorem textOf_list (a : List Int) : (textOf a).data.toList = a.map fun n => UInt8.ofNat n.toNat := by simp [textOf]
theorem extract_list (s : ByteArray) (a b : Nat) : (s.extract a b).data.toList = (s.data.toList.take b).drop a := by
  rw [ByteArray.data_extract, Array.toList_extract, List.extract_eq_take_drop, List.drop_take]
theorem put4 {x : Int} : putL x 4 = [x / 16777216 % 256, x / 65536 % 256, x / 256 % 256, x % 256] := by
  simp only [putL, List.nil_append, List.cons_append, List.cons.injEq, and_true]
  omega
theorem put2 {x : Int} : putL x 2 = [x / 256 % 256, x % 256] := by
  simp only [putL, List.nil_append, List.cons_append]
theorem fd (x : Int) (n : Int) (h : 0 ≤ n) : Int.fdiv x n = x / n := Int.fdiv_eq_ediv_of_nonneg _ h
theorem bits64 : IntKind.bits .i64 = 64 := rfl
theorem br_ite {b : Bool} {A B : Prop} : br b A B = if b = true then A else B := by cases b <;> rfl
theorem bget (s : ByteArray) (i : Nat) : s[i]? = s.data.toList[i]? := by
  by_cases h : i < s.size
  · rw [getElem?_pos s i h, List.getElem?_eq_getElem (by rw [size_list]; exact h)]; rfl
  · rw [getElem?_neg s i h, List.getElem?_eq_none (by rw [size_list]; omega)]
theorem byte_lt (b : UInt8) : (b.toNat : Int) < 256 := by have := b.toNat_lt; omega
theorem numsOf_two (a b : Int) : numsOf [AV.i .u8 a, .i .u8 b] = some [a, b] := rfl

section
variable {P : Program} {T : TEnv} {W : Nat → Option Eng.Road} {Γ : Env}
/-- As SoundF.fault, the loops' forms by the argument. -/
theorem SoundF.faultL (hT : Follows T Γ) (hΓ : Sound P Γ) (hm : P.follows .mixedOrders = true) {f : FuncId} {fn : Func} (hf : fnOk1 P W f fn) {α : Type} {mk : α → List AV} {ok good : α → Prop} {rr : α → AV} {ee : α → Nat → AV} {row : α → List AV}
    (hu : ∀ x, AV.unders 0 (mk x) = true) (hr : ∀ x, (rr x).under 0 = true) (he : ∀ x n, ee x n = reA (backN [] n) (ee x 0)) (hw : ∀ x, AV.unders 0 (row x) = true)
    (hrun : ∀ x, ok x → ∃ LA : Nat → Option Head, ∀ R : AV → Hp → Prop, (good x → ∀ h1, R (rr x) h1) → (¬ good x → ∀ v h1, Wk 0 ⟨[v], h1⟩ ⟨[ee x 0], [.cells (row x) true]⟩ → R v h1) → Holds (wpFn P T W LA 0 fn (mk x) [] R)) : SoundF P f (Cof (Sfault mk ok good rr ee row)) := by
  refine SoundF.laid hT hΓ hm hf fun args h r h' hc => ?_
  obtain ⟨x, rfl, hok, hn⟩ := Cof_spec hc
  obtain ⟨LA, hrun⟩ := hrun x hok
  rcases hn with ⟨a1, rfl, rfl⟩ | ⟨a1, rfl, rfl⟩
  · have hw' := (hrun (fun v h1 => ∃ t1 h0, h0.length = ([] : List Nat).length ∧ Wk ([] : List Nat).length ⟨[v], h1⟩ ⟨[t1], h0 ++ []⟩ ∧ t1 = rr x) (fun _ h1 => ⟨rr x, [], rfl, Wk.rows [] List.nodup_nil rfl rfl rfl (by rw [reAs, reAs, reA_flat _ (hr x)]), rfl⟩) (fun hne => absurd a1 hne)).out
    exact ⟨[], LA, rr x, [], by simp, (reA_flat _ (hr x)).symm, by simp, rfl, by rw [rens_flat _ (hu x)]; exact hw'⟩
  · have hw' := (hrun (fun v h1 => ∃ t1 h0, h0.length = ([] : List Nat).length ∧ Wk ([] : List Nat).length ⟨[v], h1⟩ ⟨[t1], h0 ++ [.cells (row x) true]⟩ ∧ t1 = ee x 0) (fun e => absurd e a1) (fun _ v h1 hk => ⟨_, [], rfl, hk, rfl⟩)).out
    refine ⟨[], LA, ee x 0, [.cells (row x) true], by simp, he x _, rfl, ?_, by rw [rens_flat _ (hu x)]; exact hw'⟩
    simp only [List.all_cons, List.all_nil, Bool.and_true, Blk.wrB, Bool.true_and]
    exact hw x
end
end Go.Proofs.YtiknpjblmihmkaaDoor.NumRun
