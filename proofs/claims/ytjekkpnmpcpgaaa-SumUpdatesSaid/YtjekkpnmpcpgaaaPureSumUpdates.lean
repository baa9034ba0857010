/- For every sum and two texts of at most 3000 bytes: a sum that is kept up is the document's. No further condition. -/
import Derived.Test.YtjekkpnmpcpgaaaEvSumUpdates
namespace Go.Proofs.Ytjekkpnmpcpgaaa.Pure
open Go.RowKit Go.Proofs.Ytjekkpnmpcpgaaa.PSumUpdates Go.Proofs.YtjekkpnmpcpgaaaW.PrintWords Go.Proofs.YtjekkpnmpcpgaaaW.PrintLast Go.Proofs.Ytjekkpnmpcpgaaa.SumMath Go.Proofs.Ytjekkpnmpcpgaaa.EvSumUpdates

theorem j0_is (n : Int) (x1 x2 : ByteArray) (b : Bool) (h : b = true ∨ x1.data.toList.length ≤ 3000 ∧ x2.data.toList.length ≤ 3000) : Ev (fun k => interpreterlaw02_SumUpdates.j0 k n x1 x2 b) true := by
  refine Ev.step (fun k => by rw [interpreterlaw02_SumUpdates.j0]) ?_
  cases b with
  | true => exact ev_pos rfl (Ev.now _)
  | false =>
    refine ev_neg (by decide) ?_
    obtain ⟨h1, h2⟩ : x1.data.toList.length ≤ 3000 ∧ x2.data.toList.length ≤ 3000 := by simpa using h
    refine Ev.bind (Update_is n x1 x2 (by omega) (by omega)) ?_
    refine Ev.bind (RefUpdate_is n x1 x2 h1 h2) (ev_now (by simp))

theorem SumUpdates : interpreterlaw02_SumUpdates.Pure := by
  intro a0 a1 a2 _ _ _
  refine Ev.rounds (r := true) ?_
  unfold interpreterlaw02_SumUpdates.f
  refine Ev.bind awake_is (ev_pos rfl ?_)
  by_cases h0 : (a1.size : Int) > 3000
  · exact ev_pos h0 (j0_is _ _ _ _ (.inl rfl))
  refine ev_neg h0 (j0_is _ _ _ _ ?_)
  by_cases h1 : (a2.size : Int) > 3000
  · exact .inl (by simpa using h1)
  · rw [size_len] at h0 h1
    exact .inr ⟨by omega, by omega⟩

end Go.Proofs.Ytjekkpnmpcpgaaa.Pure
