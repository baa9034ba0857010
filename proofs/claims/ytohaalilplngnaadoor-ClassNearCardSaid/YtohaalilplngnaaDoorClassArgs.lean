/- The laws' arguments: addresses, prefixes. -/
import Derived.Test.YtohaalilplngnaaDoorEngV
import Derived.Test.YtohaalilplngnaaDoorProg
import Derived.ChangeSame
set_option linter.unusedVariables false
set_option linter.unusedSimpArgs false
open Go Go.Proofs.YtohaalilplngnaaDoor.Eng Go.RowKit
namespace Go.Proofs.YtohaalilplngnaaDoor.ClassRun
section
variable {P : Program} {H : Type} {enc : TypeId × Value → H} {w : World}
theorem ints_of_trod {fuel : Nat} {t e : TypeId} {n : Nat} {k : IntKind} {cs : List Value} {y : DataW H × List MemPlace} (ht : P.underlying t = some (.array n e)) (he : P.underlying e = some (.int k)) (hc : P.cellsOf e = 1) (hn : P.cellsOf t = n)
    (hf : DataW.trod enc P w 0 (fun _ => true) true fuel t cs = some y) : ∃ l : List Int, l.length = n ∧ cs = l.map (Value.int k) ∧ ∀ x ∈ l, (Lit.int k x).wf = true := by
  obtain ⟨xs, m, _, _, hlen, hxs, hel⟩ := DataW.trod_array ht hf
  rw [hn] at hlen
  have each : ∀ i, i < n → ∃ z, cs[i]? = some (.int k z) ∧ (Lit.int k z).wf = true := by
    intro i hi
    have h1 := hel i hi
    rw [hc, Nat.mul_one] at h1
    obtain ⟨y, hy⟩ : ∃ y, xs[i]? = some y := ⟨xs[i]'(by omega), List.getElem?_eq_getElem (by omega)⟩
    rw [hy] at h1
    obtain ⟨z, h2, _, h3⟩ := DataW.trod_int he h1
    refine ⟨z, ?_, h3⟩
    have h4 : ((cs.drop i).take 1)[0]? = some (.int k z) := by rw [h2]; rfl
    rw [List.getElem?_take_of_lt (by omega), List.getElem?_drop] at h4
    exact h4
  refine ⟨cs.map numV, by rw [List.length_map, hlen], ?_, fun x hx => ?_⟩
  · rw [List.map_map]
    apply List.ext_getElem?
    intro i
    rw [List.getElem?_map]
    by_cases hi : i < n
    · obtain ⟨z, hz, _⟩ := each i hi
      rw [hz]; rfl
    · rw [List.getElem?_eq_none (by omega)]; rfl
  · obtain ⟨v, hv, rfl⟩ := List.mem_map.1 hx
    obtain ⟨i, hi⟩ := List.getElem?_of_mem hv
    have hil := (List.getElem?_eq_some_iff.1 hi).1
    obtain ⟨z, hz, hw⟩ := each i (by omega)
    rw [hi] at hz
    cases hz
    exact hw
/-- A prefix: an array of bytes, a length. -/
theorem arg_net {r : Reach} {b0 : Nat} {t : TypeId} {f0 f1 : Field} {e : TypeId} {n : Nat} {v : Value} {d : DataW H} {ps : List MemPlace} (hs : P.underlying t = some (.struct #[f0, f1])) (h0 : P.underlying f0.type = some (.array n e)) (he : P.underlying e = some (.int .u8)) (hc : P.cellsOf e = 1) (hn : P.cellsOf f0.type = n)
    (h1 : P.underlying f1.type = some (.int .i64)) (hc1 : P.cellsOf f1.type = 1) (o0 : f0.offset = 0) (o1 : f1.offset = n) (hC : P.cellsOf t = n + 1)
    (hval : Value.okWide P w r b0 t v) (hd : DataW.Trod enc P w 0 (fun _ => true) true t v d ps) : ∃ (l : List Int) (m : Int), l.length = n ∧ v = .agg (l.map (Value.int .u8) ++ [Value.int .i64 m]).toArray ∧ (∀ x ∈ l, (Lit.int .u8 x).wf = true) ∧ (Lit.int .i64 m).wf = true := by
  obtain ⟨cs, rfl, hsz⟩ := Go.WideShapes.okWide_struct hs hval
  obtain ⟨fuel, hf⟩ := hd
  obtain ⟨y0, y1, k, _, hl, k0, k1⟩ := Go.ChangeShapes.trod_struct2 hs hf
  have hcl : (Value.agg cs).cells.toList = cs.toList := by simp [Value.cells]
  rw [hcl] at hl k0 k1
  obtain ⟨l, hl1, hl2, hl3⟩ := ints_of_trod h0 he hc hn k0
  obtain ⟨m, e1, _, hw⟩ := DataW.trod_int h1 k1
  rw [o0, hn] at hl2
  rw [o1, hc1] at e1
  rw [hC] at hl
  refine ⟨l, m, hl1, ?_, hl3, hw⟩
  congr 1
  apply Array.toList_inj.1
  have : cs.toList = (cs.toList.drop 0).take n ++ (cs.toList.drop n).take 1 := by
    rw [List.drop_zero, List.take_of_length_le (i := 1) (by rw [List.length_drop]; omega), List.take_append_drop]
  rw [this, hl2, e1]
end
end Go.Proofs.YtohaalilplngnaaDoor.ClassRun
