/- ScriptBack: the parts joined. -/
import Derived.Test.YtnfbgfmdjaodgaaScriptSd
set_option linter.unusedVariables false
set_option linter.unusedSimpArgs false
open Go Go.Proofs.Ytnfbgfmdjaodgaa.Eng Go.RowKit
namespace Go.Proofs.Ytnfbgfmdjaodgaa.ScriptRun
theorem ok5 : fnOk1 P noW 5 Go.Proofs.Try.f5 := ⟨Go.Proofs.Try.func5, by kernel_rfl, by kernel_rfl, by kernel_rfl⟩
theorem ok5L : okL P noW b5 = true := flat_ok ok5.2.2.2
set_option maxRecDepth 100000 in
theorem qcnn00 (hx0 : (enc []).1 = []) (hm0 : (decode []) = []) : RunL P 0 (tlC 12 (tlC 8 b5)) (u12nn_00 (enc []).2) (finQ P Go.Proofs.Try.f5 fun v _ => v = .bo true) := by
  have ok12 := ok_tl (P := P) (W := noW) 12 (ok_tl (P := P) (W := noW) 8 ok5L)
  have ok15 := ok_tl (P := P) (W := noW) 15 ok12
  refine cut_part (W := noW) (LA := noL) (r := 15) EL_f EL_s mo ok12 (by kernel_rfl) (L15n_00) (fun (q : Unit ⊕ List Ev) => match q with | .inl _ => ([] ++ [] : List Ev) = [] | .inr q => q = ([] ++ [] : List Ev) ∧ ([] ++ [] : List Ev) ≠ []) (pcnn00 (enc []).2 _ _ (fun _ => rfl) ?_) ?_
  · intro he h1 h2
    have hc : decode ((enc []).1 ++ []) = [] ++ (decode []) := back_cat he (by rw [hx0]; (try simp only [List.length_nil]); omega) (by rw [hm0]; (try simp only [List.length_nil]); omega)
    rw [hx0] at hc; rw [hm0] at hc
    rw [hc]
    exact ⟨fun h => h, fun h => ⟨rfl, h⟩⟩
  · intro q hq
    match q, hq with
    | .inl _, hq =>
      exact cut_last (W := noW) (LA := noL) EL_f EL_s mo ok15 (pdnn00  _ (fun _ => rfl))
    | .inr q, hq =>
      obtain ⟨rfl, hq⟩ := hq
      exact cut_last (W := noW) (LA := noL) EL_f EL_s mo ok15 (pdns00 hq _ (fun _ => rfl))
set_option maxRecDepth 100000 in
theorem qcns00 (hx0 : (enc []).1 = []) (hm0 : (decode []) ≠ []) : RunL P 0 (tlC 12 (tlC 8 b5)) (u12ns_00 (enc []).2 (decode [])) (finQ P Go.Proofs.Try.f5 fun v _ => v = .bo true) := by
  have ok12 := ok_tl (P := P) (W := noW) 12 (ok_tl (P := P) (W := noW) 8 ok5L)
  have ok15 := ok_tl (P := P) (W := noW) 15 ok12
  refine cut_part (W := noW) (LA := noL) (r := 15) EL_f EL_s mo ok12 (by kernel_rfl) (L15s_00) (fun (q : List Ev ⊕ (List Ev × List Ev)) => match q with | .inl m => m = (decode []) ∧ ([] ++ (decode [])) = [] | .inr q => q = ((decode []), ([] ++ (decode []))) ∧ ([] ++ (decode [])) ≠ []) (pcns00 (enc []).2 (decode []) (decode_len _) _ _ (fun _ => rfl) ?_) ?_
  · intro he h1 h2
    have hc : decode ((enc []).1 ++ []) = [] ++ (decode []) := back_cat he (by rw [hx0]; (try simp only [List.length_nil]); omega) (by (try simp only [List.length_nil]); omega)
    rw [hx0] at hc
    rw [hc]
    exact ⟨fun h => ⟨rfl, h⟩, fun h => ⟨rfl, h⟩⟩
  · intro q hq
    match q, hq with
    | .inl m, hq =>
      obtain ⟨rfl, hq⟩ := hq
      exact cut_last (W := noW) (LA := noL) EL_f EL_s mo ok15 (pdsn00 (decode []) (decode_len _) (List.append_eq_nil_iff.1 hq).2 _ (fun _ => rfl))
    | .inr q, hq =>
      obtain ⟨rfl, hq⟩ := hq
      exact cut_last (W := noW) (LA := noL) EL_f EL_s mo ok15 (pdss00 (decode []) (decode_len _) hq _ (fun _ => rfl))
set_option maxRecDepth 100000 in
theorem qcsn00 (hx0 : (enc []).1 ≠ []) (hm0 : (decode []) = []) : RunL P 0 (tlC 12 (tlC 8 b5)) (u12sn_00 (enc []).2 (enc []).1) (finQ P Go.Proofs.Try.f5 fun v _ => v = .bo true) := by
  have ok12 := ok_tl (P := P) (W := noW) 12 (ok_tl (P := P) (W := noW) 8 ok5L)
  have ok15 := ok_tl (P := P) (W := noW) 15 ok12
  refine cut_part (W := noW) (LA := noL) (r := 15) EL_f EL_s mo ok12 (by kernel_rfl) (L15n_00) (fun (q : Unit ⊕ List Ev) => match q with | .inl _ => ([] ++ [] : List Ev) = [] | .inr q => q = ([] ++ [] : List Ev) ∧ ([] ++ [] : List Ev) ≠ []) (pcsn00 (enc []).2 (enc []).1 hx0 (enc_len _) _ _ (fun _ => rfl) ?_) ?_
  · intro he h1 h2
    have hc : decode ((enc []).1 ++ []) = [] ++ (decode []) := back_cat he (by (try simp only [List.length_nil]); omega) (by rw [hm0]; (try simp only [List.length_nil]); omega)
    rw [hm0] at hc
    rw [hc]
    exact ⟨fun h => h, fun h => ⟨rfl, h⟩⟩
  · intro q hq
    match q, hq with
    | .inl _, hq =>
      exact cut_last (W := noW) (LA := noL) EL_f EL_s mo ok15 (pdnn00  _ (fun _ => rfl))
    | .inr q, hq =>
      obtain ⟨rfl, hq⟩ := hq
      exact cut_last (W := noW) (LA := noL) EL_f EL_s mo ok15 (pdns00 hq _ (fun _ => rfl))
set_option maxRecDepth 100000 in
theorem qcss00 (hx0 : (enc []).1 ≠ []) (hm0 : (decode []) ≠ []) : RunL P 0 (tlC 12 (tlC 8 b5)) (u12ss_00 (enc []).2 (enc []).1 (decode [])) (finQ P Go.Proofs.Try.f5 fun v _ => v = .bo true) := by
  have ok12 := ok_tl (P := P) (W := noW) 12 (ok_tl (P := P) (W := noW) 8 ok5L)
  have ok15 := ok_tl (P := P) (W := noW) 15 ok12
  refine cut_part (W := noW) (LA := noL) (r := 15) EL_f EL_s mo ok12 (by kernel_rfl) (L15s_00) (fun (q : List Ev ⊕ (List Ev × List Ev)) => match q with | .inl m => m = (decode []) ∧ ([] ++ (decode [])) = [] | .inr q => q = ((decode []), ([] ++ (decode []))) ∧ ([] ++ (decode [])) ≠ []) (pcss00 (enc []).2 (enc []).1 hx0 (enc_len _) (decode []) (decode_len _) _ _ (fun _ => rfl) ?_) ?_
  · intro he h1 h2
    have hc : decode ((enc []).1 ++ []) = [] ++ (decode []) := back_cat he (by (try simp only [List.length_nil]); omega) (by (try simp only [List.length_nil]); omega)
    skip
    rw [hc]
    exact ⟨fun h => ⟨rfl, h⟩, fun h => ⟨rfl, h⟩⟩
  · intro q hq
    match q, hq with
    | .inl m, hq =>
      obtain ⟨rfl, hq⟩ := hq
      exact cut_last (W := noW) (LA := noL) EL_f EL_s mo ok15 (pdsn00 (decode []) (decode_len _) (List.append_eq_nil_iff.1 hq).2 _ (fun _ => rfl))
    | .inr q, hq =>
      obtain ⟨rfl, hq⟩ := hq
      exact cut_last (W := noW) (LA := noL) EL_f EL_s mo ok15 (pdss00 (decode []) (decode_len _) hq _ (fun _ => rfl))
set_option maxRecDepth 100000 in
theorem qbn00 (hx0 : (enc []).1 = []) : RunL P 0 (tlC 8 b5) (u8n_00 (enc []).2) (finQ P Go.Proofs.Try.f5 fun v _ => v = .bo true) := by
  have ok8 := ok_tl (P := P) (W := noW) 8 ok5L
  refine cut_part (W := noW) (LA := noL) (r := 12) EL_f EL_s mo ok8 (by kernel_rfl) (L12n_00) (fun (q : Int ⊕ (Int × List Ev)) => match q with | .inl q => q = (enc []).2 ∧ (decode []) = [] | .inr q => q = ((enc []).2, (decode [])) ∧ (decode []) ≠ []) (pbn00 (enc []).2 _ _ ⟨fun h => ⟨rfl, h⟩, fun h => ⟨rfl, h⟩⟩) ?_
  intro q hq
  match q, hq with
  | .inl q, hq =>
    obtain ⟨rfl, hq⟩ := hq
    exact qcnn00 hx0 hq
  | .inr q, hq =>
    obtain ⟨rfl, hq⟩ := hq
    exact qcns00 hx0 hq
set_option maxRecDepth 100000 in
theorem qbs00 (hx0 : (enc []).1 ≠ []) : RunL P 0 (tlC 8 b5) (u8s_00 (enc []).2 (enc []).1) (finQ P Go.Proofs.Try.f5 fun v _ => v = .bo true) := by
  have ok8 := ok_tl (P := P) (W := noW) 8 ok5L
  refine cut_part (W := noW) (LA := noL) (r := 12) EL_f EL_s mo ok8 (by kernel_rfl) (L12s_00) (fun (q : (Int × List UInt8) ⊕ (Int × List UInt8 × List Ev)) => match q with | .inl q => q = ((enc []).2, (enc []).1) ∧ (decode []) = [] | .inr q => q = ((enc []).2, (enc []).1, (decode [])) ∧ (decode []) ≠ []) (pbs00 (enc []).2 (enc []).1 _ _ ⟨fun h => ⟨rfl, h⟩, fun h => ⟨rfl, h⟩⟩) ?_
  intro q hq
  match q, hq with
  | .inl q, hq =>
    obtain ⟨rfl, hq⟩ := hq
    exact qcsn00 hx0 hq
  | .inr q, hq =>
    obtain ⟨rfl, hq⟩ := hq
    exact qcss00 hx0 hq
set_option maxRecDepth 100000 in
theorem run5_00 : RunF P 0 Go.Proofs.Try.f5 [.sn, .sn] [] fun v _ => v = .bo true := by
  refine runF_of ?_
  refine cut_part (W := noW) (LA := noL) (cs := b5) (r := 8) EL_f EL_s mo ok5L (by kernel_rfl) (L8_00) (fun (q : Int ⊕ (Int × List UInt8)) => grE ([] : List Ev) = false ∧ ([] : List UInt8).length ≤ 300000 ∧ match q with | .inl q => q = (enc []).2 ∧ (enc []).1 = [] | .inr q => q = ((enc []).2, (enc []).1) ∧ (enc []).1 ≠ []) (pa00 _ _ (fun _ => rfl) fun hg h3 => ⟨fun h => ⟨hg, h3, rfl, h⟩, fun h => ⟨hg, h3, rfl, h⟩⟩) ?_
  intro q hq
  match q, hq with
  | .inl q, hq =>
    obtain ⟨hg, h3, rfl, hq⟩ := hq
    exact qbn00 hq
  | .inr q, hq =>
    obtain ⟨hg, h3, rfl, hq⟩ := hq
    exact qbs00 hq
set_option maxRecDepth 100000 in
theorem qcnn01 {bs zs : List UInt8} (hz : bs.take zs.length = zs) (capb : Nat) (hcb : zs.length ≤ capb) (hx0 : (enc []).1 = []) (hm0 : (decode zs) = []) (h3 : zs.length ≤ 300000) : RunL P 1 (tlC 12 (tlC 8 b5)) (u12nn_01 zs.length capb (recs mkB bs) (enc []).2) (finQ P Go.Proofs.Try.f5 fun v _ => v = .bo true) := by
  have ok12 := ok_tl (P := P) (W := noW) 12 (ok_tl (P := P) (W := noW) 8 ok5L)
  have ok15 := ok_tl (P := P) (W := noW) 15 ok12
  refine cut_part (W := noW) (LA := noL) (r := 15) EL_f EL_s mo ok12 (by kernel_rfl) (L15n_01 zs.length capb (recs mkB bs)) (fun (q : Unit ⊕ List Ev) => match q with | .inl _ => ([] ++ [] : List Ev) = [] | .inr q => q = ([] ++ [] : List Ev) ∧ ([] ++ [] : List Ev) ≠ []) (pcnn01 hz capb hcb (enc []).2 h3 _ _ (fun _ => rfl) ?_) ?_
  · intro he h1 h2
    have hc : decode ((enc []).1 ++ zs) = [] ++ (decode zs) := back_cat he (by rw [hx0]; (try simp only [List.length_nil]); omega) (by rw [hm0]; (try simp only [List.length_nil]); omega)
    rw [hx0] at hc; rw [hm0] at hc
    rw [hc]
    exact ⟨fun h => h, fun h => ⟨rfl, h⟩⟩
  · intro q hq
    match q, hq with
    | .inl _, hq =>
      exact cut_last (W := noW) (LA := noL) EL_f EL_s mo ok15 (pdnn01 hz capb hcb  _ (fun _ => rfl))
    | .inr q, hq =>
      obtain ⟨rfl, hq⟩ := hq
      exact cut_last (W := noW) (LA := noL) EL_f EL_s mo ok15 (pdns01 hz capb hcb hq _ (fun _ => rfl))
set_option maxRecDepth 100000 in
theorem qcns01 {bs zs : List UInt8} (hz : bs.take zs.length = zs) (capb : Nat) (hcb : zs.length ≤ capb) (hx0 : (enc []).1 = []) (hm0 : (decode zs) ≠ []) (h3 : zs.length ≤ 300000) : RunL P 1 (tlC 12 (tlC 8 b5)) (u12ns_01 zs.length capb (recs mkB bs) (enc []).2 (decode zs)) (finQ P Go.Proofs.Try.f5 fun v _ => v = .bo true) := by
  have ok12 := ok_tl (P := P) (W := noW) 12 (ok_tl (P := P) (W := noW) 8 ok5L)
  have ok15 := ok_tl (P := P) (W := noW) 15 ok12
  refine cut_part (W := noW) (LA := noL) (r := 15) EL_f EL_s mo ok12 (by kernel_rfl) (L15s_01 zs.length capb (recs mkB bs)) (fun (q : List Ev ⊕ (List Ev × List Ev)) => match q with | .inl m => m = (decode zs) ∧ ([] ++ (decode zs)) = [] | .inr q => q = ((decode zs), ([] ++ (decode zs))) ∧ ([] ++ (decode zs)) ≠ []) (pcns01 hz capb hcb (enc []).2 (decode zs) (decode_len _) h3 _ _ (fun _ => rfl) ?_) ?_
  · intro he h1 h2
    have hc : decode ((enc []).1 ++ zs) = [] ++ (decode zs) := back_cat he (by rw [hx0]; (try simp only [List.length_nil]); omega) (by (try simp only [List.length_nil]); omega)
    rw [hx0] at hc
    rw [hc]
    exact ⟨fun h => ⟨rfl, h⟩, fun h => ⟨rfl, h⟩⟩
  · intro q hq
    match q, hq with
    | .inl m, hq =>
      obtain ⟨rfl, hq⟩ := hq
      exact cut_last (W := noW) (LA := noL) EL_f EL_s mo ok15 (pdsn01 hz capb hcb (decode zs) (decode_len _) (List.append_eq_nil_iff.1 hq).2 _ (fun _ => rfl))
    | .inr q, hq =>
      obtain ⟨rfl, hq⟩ := hq
      exact cut_last (W := noW) (LA := noL) EL_f EL_s mo ok15 (pdss01 hz capb hcb (decode zs) (decode_len _) hq _ (fun _ => rfl))
set_option maxRecDepth 100000 in
theorem qcsn01 {bs zs : List UInt8} (hz : bs.take zs.length = zs) (capb : Nat) (hcb : zs.length ≤ capb) (hx0 : (enc []).1 ≠ []) (hm0 : (decode zs) = []) (h3 : zs.length ≤ 300000) : RunL P 1 (tlC 12 (tlC 8 b5)) (u12sn_01 zs.length capb (recs mkB bs) (enc []).2 (enc []).1) (finQ P Go.Proofs.Try.f5 fun v _ => v = .bo true) := by
  have ok12 := ok_tl (P := P) (W := noW) 12 (ok_tl (P := P) (W := noW) 8 ok5L)
  have ok15 := ok_tl (P := P) (W := noW) 15 ok12
  refine cut_part (W := noW) (LA := noL) (r := 15) EL_f EL_s mo ok12 (by kernel_rfl) (L15n_01 zs.length capb (recs mkB bs)) (fun (q : Unit ⊕ List Ev) => match q with | .inl _ => ([] ++ [] : List Ev) = [] | .inr q => q = ([] ++ [] : List Ev) ∧ ([] ++ [] : List Ev) ≠ []) (pcsn01 hz capb hcb (enc []).2 (enc []).1 hx0 (enc_len _) h3 _ _ (fun _ => rfl) ?_) ?_
  · intro he h1 h2
    have hc : decode ((enc []).1 ++ zs) = [] ++ (decode zs) := back_cat he (by (try simp only [List.length_nil]); omega) (by rw [hm0]; (try simp only [List.length_nil]); omega)
    rw [hm0] at hc
    rw [hc]
    exact ⟨fun h => h, fun h => ⟨rfl, h⟩⟩
  · intro q hq
    match q, hq with
    | .inl _, hq =>
      exact cut_last (W := noW) (LA := noL) EL_f EL_s mo ok15 (pdnn01 hz capb hcb  _ (fun _ => rfl))
    | .inr q, hq =>
      obtain ⟨rfl, hq⟩ := hq
      exact cut_last (W := noW) (LA := noL) EL_f EL_s mo ok15 (pdns01 hz capb hcb hq _ (fun _ => rfl))
set_option maxRecDepth 100000 in
theorem qcss01 {bs zs : List UInt8} (hz : bs.take zs.length = zs) (capb : Nat) (hcb : zs.length ≤ capb) (hx0 : (enc []).1 ≠ []) (hm0 : (decode zs) ≠ []) (h3 : zs.length ≤ 300000) : RunL P 1 (tlC 12 (tlC 8 b5)) (u12ss_01 zs.length capb (recs mkB bs) (enc []).2 (enc []).1 (decode zs)) (finQ P Go.Proofs.Try.f5 fun v _ => v = .bo true) := by
  have ok12 := ok_tl (P := P) (W := noW) 12 (ok_tl (P := P) (W := noW) 8 ok5L)
  have ok15 := ok_tl (P := P) (W := noW) 15 ok12
  refine cut_part (W := noW) (LA := noL) (r := 15) EL_f EL_s mo ok12 (by kernel_rfl) (L15s_01 zs.length capb (recs mkB bs)) (fun (q : List Ev ⊕ (List Ev × List Ev)) => match q with | .inl m => m = (decode zs) ∧ ([] ++ (decode zs)) = [] | .inr q => q = ((decode zs), ([] ++ (decode zs))) ∧ ([] ++ (decode zs)) ≠ []) (pcss01 hz capb hcb (enc []).2 (enc []).1 hx0 (enc_len _) (decode zs) (decode_len _) h3 _ _ (fun _ => rfl) ?_) ?_
  · intro he h1 h2
    have hc : decode ((enc []).1 ++ zs) = [] ++ (decode zs) := back_cat he (by (try simp only [List.length_nil]); omega) (by (try simp only [List.length_nil]); omega)
    skip
    rw [hc]
    exact ⟨fun h => ⟨rfl, h⟩, fun h => ⟨rfl, h⟩⟩
  · intro q hq
    match q, hq with
    | .inl m, hq =>
      obtain ⟨rfl, hq⟩ := hq
      exact cut_last (W := noW) (LA := noL) EL_f EL_s mo ok15 (pdsn01 hz capb hcb (decode zs) (decode_len _) (List.append_eq_nil_iff.1 hq).2 _ (fun _ => rfl))
    | .inr q, hq =>
      obtain ⟨rfl, hq⟩ := hq
      exact cut_last (W := noW) (LA := noL) EL_f EL_s mo ok15 (pdss01 hz capb hcb (decode zs) (decode_len _) hq _ (fun _ => rfl))
set_option maxRecDepth 100000 in
theorem qbn01 {bs zs : List UInt8} (hz : bs.take zs.length = zs) (capb : Nat) (hcb : zs.length ≤ capb) (hx0 : (enc []).1 = []) (h3 : zs.length ≤ 300000) : RunL P 1 (tlC 8 b5) (u8n_01 zs.length capb (recs mkB bs) (enc []).2) (finQ P Go.Proofs.Try.f5 fun v _ => v = .bo true) := by
  have ok8 := ok_tl (P := P) (W := noW) 8 ok5L
  refine cut_part (W := noW) (LA := noL) (r := 12) EL_f EL_s mo ok8 (by kernel_rfl) (L12n_01 zs.length capb (recs mkB bs)) (fun (q : Int ⊕ (Int × List Ev)) => match q with | .inl q => q = (enc []).2 ∧ (decode zs) = [] | .inr q => q = ((enc []).2, (decode zs)) ∧ (decode zs) ≠ []) (pbn01 hz capb hcb (enc []).2 _ _ ⟨fun h => ⟨rfl, h⟩, fun h => ⟨rfl, h⟩⟩ h3) ?_
  intro q hq
  match q, hq with
  | .inl q, hq =>
    obtain ⟨rfl, hq⟩ := hq
    exact qcnn01 hz capb hcb hx0 hq h3
  | .inr q, hq =>
    obtain ⟨rfl, hq⟩ := hq
    exact qcns01 hz capb hcb hx0 hq h3
set_option maxRecDepth 100000 in
theorem qbs01 {bs zs : List UInt8} (hz : bs.take zs.length = zs) (capb : Nat) (hcb : zs.length ≤ capb) (hx0 : (enc []).1 ≠ []) (h3 : zs.length ≤ 300000) : RunL P 1 (tlC 8 b5) (u8s_01 zs.length capb (recs mkB bs) (enc []).2 (enc []).1) (finQ P Go.Proofs.Try.f5 fun v _ => v = .bo true) := by
  have ok8 := ok_tl (P := P) (W := noW) 8 ok5L
  refine cut_part (W := noW) (LA := noL) (r := 12) EL_f EL_s mo ok8 (by kernel_rfl) (L12s_01 zs.length capb (recs mkB bs)) (fun (q : (Int × List UInt8) ⊕ (Int × List UInt8 × List Ev)) => match q with | .inl q => q = ((enc []).2, (enc []).1) ∧ (decode zs) = [] | .inr q => q = ((enc []).2, (enc []).1, (decode zs)) ∧ (decode zs) ≠ []) (pbs01 hz capb hcb (enc []).2 (enc []).1 _ _ ⟨fun h => ⟨rfl, h⟩, fun h => ⟨rfl, h⟩⟩ h3) ?_
  intro q hq
  match q, hq with
  | .inl q, hq =>
    obtain ⟨rfl, hq⟩ := hq
    exact qcsn01 hz capb hcb hx0 hq h3
  | .inr q, hq =>
    obtain ⟨rfl, hq⟩ := hq
    exact qcss01 hz capb hcb hx0 hq h3
set_option maxRecDepth 100000 in
theorem run5_01 {bs zs : List UInt8} (hz : bs.take zs.length = zs) (capb : Nat) (hcb : zs.length ≤ capb) : RunF P 1 Go.Proofs.Try.f5 [.sn, .sl 0 0 zs.length 1 (some capb)] [.cells (recs mkB bs) false] fun v _ => v = .bo true := by
  refine runF_of ?_
  refine cut_part (W := noW) (LA := noL) (cs := b5) (r := 8) EL_f EL_s mo ok5L (by kernel_rfl) (L8_01 zs.length capb (recs mkB bs)) (fun (q : Int ⊕ (Int × List UInt8)) => grE ([] : List Ev) = false ∧ (zs : List UInt8).length ≤ 300000 ∧ match q with | .inl q => q = (enc []).2 ∧ (enc []).1 = [] | .inr q => q = ((enc []).2, (enc []).1) ∧ (enc []).1 ≠ []) (pa01 hz capb hcb _ _ (fun _ => rfl) fun hg h3 => ⟨fun h => ⟨hg, h3, rfl, h⟩, fun h => ⟨hg, h3, rfl, h⟩⟩) ?_
  intro q hq
  match q, hq with
  | .inl q, hq =>
    obtain ⟨hg, h3, rfl, hq⟩ := hq
    exact qbn01 hz capb hcb hq h3
  | .inr q, hq =>
    obtain ⟨hg, h3, rfl, hq⟩ := hq
    exact qbs01 hz capb hcb hq h3
set_option maxRecDepth 100000 in
theorem qcnn10 {xs ys : List Ev} (hx : xs.take ys.length = ys) (capl : Nat) (hcl : ys.length ≤ capl) (hm : xs.length ≤ maxLen) (hx0 : (enc ys).1 = []) (hm0 : (decode []) = []) (hy5 : ys.length ≤ 5000) : RunL P 1 (tlC 12 (tlC 8 b5)) (u12nn_10 ys.length capl (recs mkEv xs) (enc ys).2) (finQ P Go.Proofs.Try.f5 fun v _ => v = .bo true) := by
  have ok12 := ok_tl (P := P) (W := noW) 12 (ok_tl (P := P) (W := noW) 8 ok5L)
  have ok15 := ok_tl (P := P) (W := noW) 15 ok12
  refine cut_part (W := noW) (LA := noL) (r := 15) EL_f EL_s mo ok12 (by kernel_rfl) (L15n_10 ys.length capl (recs mkEv xs)) (fun (q : Unit ⊕ List Ev) => match q with | .inl _ => (ys ++ []) = [] | .inr q => q = (ys ++ []) ∧ (ys ++ []) ≠ []) (pcnn10 hx capl hcl hm (enc ys).2 hy5 _ _ (fun _ => rfl) ?_) ?_
  · intro he h1 h2
    have hc : decode ((enc ys).1 ++ []) = ys ++ (decode []) := back_cat he (by rw [hx0]; (try simp only [List.length_nil]); omega) (by rw [hm0]; (try simp only [List.length_nil]); omega)
    rw [hx0] at hc; rw [hm0] at hc
    rw [hc]
    exact ⟨fun h => h, fun h => ⟨rfl, h⟩⟩
  · intro q hq
    match q, hq with
    | .inl _, hq =>
      exact cut_last (W := noW) (LA := noL) EL_f EL_s mo ok15 (pdnn10 hx capl hcl hm hy5 (List.append_eq_nil_iff.1 hq).1 _ (fun _ => rfl))
    | .inr q, hq =>
      obtain ⟨rfl, hq⟩ := hq
      exact cut_last (W := noW) (LA := noL) EL_f EL_s mo ok15 (pdns10 hx capl hcl hm hy5 hq _ (fun _ => rfl))
set_option maxRecDepth 100000 in
theorem qcns10 {xs ys : List Ev} (hx : xs.take ys.length = ys) (capl : Nat) (hcl : ys.length ≤ capl) (hm : xs.length ≤ maxLen) (hx0 : (enc ys).1 = []) (hm0 : (decode []) ≠ []) (hy5 : ys.length ≤ 5000) : RunL P 1 (tlC 12 (tlC 8 b5)) (u12ns_10 ys.length capl (recs mkEv xs) (enc ys).2 (decode [])) (finQ P Go.Proofs.Try.f5 fun v _ => v = .bo true) := by
  have ok12 := ok_tl (P := P) (W := noW) 12 (ok_tl (P := P) (W := noW) 8 ok5L)
  have ok15 := ok_tl (P := P) (W := noW) 15 ok12
  refine cut_part (W := noW) (LA := noL) (r := 15) EL_f EL_s mo ok12 (by kernel_rfl) (L15s_10 ys.length capl (recs mkEv xs)) (fun (q : List Ev ⊕ (List Ev × List Ev)) => match q with | .inl m => m = (decode []) ∧ (ys ++ (decode [])) = [] | .inr q => q = ((decode []), (ys ++ (decode []))) ∧ (ys ++ (decode [])) ≠ []) (pcns10 hx capl hcl hm (enc ys).2 (decode []) (decode_len _) hy5 _ _ (fun _ => rfl) ?_) ?_
  · intro he h1 h2
    have hc : decode ((enc ys).1 ++ []) = ys ++ (decode []) := back_cat he (by rw [hx0]; (try simp only [List.length_nil]); omega) (by (try simp only [List.length_nil]); omega)
    rw [hx0] at hc
    rw [hc]
    exact ⟨fun h => ⟨rfl, h⟩, fun h => ⟨rfl, h⟩⟩
  · intro q hq
    match q, hq with
    | .inl m, hq =>
      obtain ⟨rfl, hq⟩ := hq
      exact cut_last (W := noW) (LA := noL) EL_f EL_s mo ok15 (pdsn10 hx capl hcl hm (decode []) (decode_len _) hy5 (List.append_eq_nil_iff.1 hq).1 (List.append_eq_nil_iff.1 hq).2 _ (fun _ => rfl))
    | .inr q, hq =>
      obtain ⟨rfl, hq⟩ := hq
      exact cut_last (W := noW) (LA := noL) EL_f EL_s mo ok15 (pdss10 hx capl hcl hm (decode []) (decode_len _) hy5 hq _ (fun _ => rfl))
set_option maxRecDepth 100000 in
theorem qcsn10 {xs ys : List Ev} (hx : xs.take ys.length = ys) (capl : Nat) (hcl : ys.length ≤ capl) (hm : xs.length ≤ maxLen) (hx0 : (enc ys).1 ≠ []) (hm0 : (decode []) = []) (hy5 : ys.length ≤ 5000) : RunL P 1 (tlC 12 (tlC 8 b5)) (u12sn_10 ys.length capl (recs mkEv xs) (enc ys).2 (enc ys).1) (finQ P Go.Proofs.Try.f5 fun v _ => v = .bo true) := by
  have ok12 := ok_tl (P := P) (W := noW) 12 (ok_tl (P := P) (W := noW) 8 ok5L)
  have ok15 := ok_tl (P := P) (W := noW) 15 ok12
  refine cut_part (W := noW) (LA := noL) (r := 15) EL_f EL_s mo ok12 (by kernel_rfl) (L15n_10 ys.length capl (recs mkEv xs)) (fun (q : Unit ⊕ List Ev) => match q with | .inl _ => (ys ++ []) = [] | .inr q => q = (ys ++ []) ∧ (ys ++ []) ≠ []) (pcsn10 hx capl hcl hm (enc ys).2 (enc ys).1 hx0 (enc_len _) hy5 _ _ (fun _ => rfl) ?_) ?_
  · intro he h1 h2
    have hc : decode ((enc ys).1 ++ []) = ys ++ (decode []) := back_cat he (by (try simp only [List.length_nil]); omega) (by rw [hm0]; (try simp only [List.length_nil]); omega)
    rw [hm0] at hc
    rw [hc]
    exact ⟨fun h => h, fun h => ⟨rfl, h⟩⟩
  · intro q hq
    match q, hq with
    | .inl _, hq =>
      exact cut_last (W := noW) (LA := noL) EL_f EL_s mo ok15 (pdnn10 hx capl hcl hm hy5 (List.append_eq_nil_iff.1 hq).1 _ (fun _ => rfl))
    | .inr q, hq =>
      obtain ⟨rfl, hq⟩ := hq
      exact cut_last (W := noW) (LA := noL) EL_f EL_s mo ok15 (pdns10 hx capl hcl hm hy5 hq _ (fun _ => rfl))
set_option maxRecDepth 100000 in
theorem qcss10 {xs ys : List Ev} (hx : xs.take ys.length = ys) (capl : Nat) (hcl : ys.length ≤ capl) (hm : xs.length ≤ maxLen) (hx0 : (enc ys).1 ≠ []) (hm0 : (decode []) ≠ []) (hy5 : ys.length ≤ 5000) : RunL P 1 (tlC 12 (tlC 8 b5)) (u12ss_10 ys.length capl (recs mkEv xs) (enc ys).2 (enc ys).1 (decode [])) (finQ P Go.Proofs.Try.f5 fun v _ => v = .bo true) := by
  have ok12 := ok_tl (P := P) (W := noW) 12 (ok_tl (P := P) (W := noW) 8 ok5L)
  have ok15 := ok_tl (P := P) (W := noW) 15 ok12
  refine cut_part (W := noW) (LA := noL) (r := 15) EL_f EL_s mo ok12 (by kernel_rfl) (L15s_10 ys.length capl (recs mkEv xs)) (fun (q : List Ev ⊕ (List Ev × List Ev)) => match q with | .inl m => m = (decode []) ∧ (ys ++ (decode [])) = [] | .inr q => q = ((decode []), (ys ++ (decode []))) ∧ (ys ++ (decode [])) ≠ []) (pcss10 hx capl hcl hm (enc ys).2 (enc ys).1 hx0 (enc_len _) (decode []) (decode_len _) hy5 _ _ (fun _ => rfl) ?_) ?_
  · intro he h1 h2
    have hc : decode ((enc ys).1 ++ []) = ys ++ (decode []) := back_cat he (by (try simp only [List.length_nil]); omega) (by (try simp only [List.length_nil]); omega)
    skip
    rw [hc]
    exact ⟨fun h => ⟨rfl, h⟩, fun h => ⟨rfl, h⟩⟩
  · intro q hq
    match q, hq with
    | .inl m, hq =>
      obtain ⟨rfl, hq⟩ := hq
      exact cut_last (W := noW) (LA := noL) EL_f EL_s mo ok15 (pdsn10 hx capl hcl hm (decode []) (decode_len _) hy5 (List.append_eq_nil_iff.1 hq).1 (List.append_eq_nil_iff.1 hq).2 _ (fun _ => rfl))
    | .inr q, hq =>
      obtain ⟨rfl, hq⟩ := hq
      exact cut_last (W := noW) (LA := noL) EL_f EL_s mo ok15 (pdss10 hx capl hcl hm (decode []) (decode_len _) hy5 hq _ (fun _ => rfl))
set_option maxRecDepth 100000 in
theorem qbn10 {xs ys : List Ev} (hx : xs.take ys.length = ys) (capl : Nat) (hcl : ys.length ≤ capl) (hm : xs.length ≤ maxLen) (hx0 : (enc ys).1 = []) (hy5 : ys.length ≤ 5000) : RunL P 1 (tlC 8 b5) (u8n_10 ys.length capl (recs mkEv xs) (enc ys).2) (finQ P Go.Proofs.Try.f5 fun v _ => v = .bo true) := by
  have ok8 := ok_tl (P := P) (W := noW) 8 ok5L
  refine cut_part (W := noW) (LA := noL) (r := 12) EL_f EL_s mo ok8 (by kernel_rfl) (L12n_10 ys.length capl (recs mkEv xs)) (fun (q : Int ⊕ (Int × List Ev)) => match q with | .inl q => q = (enc ys).2 ∧ (decode []) = [] | .inr q => q = ((enc ys).2, (decode [])) ∧ (decode []) ≠ []) (pbn10 hx capl hcl hm (enc ys).2 _ _ ⟨fun h => ⟨rfl, h⟩, fun h => ⟨rfl, h⟩⟩) ?_
  intro q hq
  match q, hq with
  | .inl q, hq =>
    obtain ⟨rfl, hq⟩ := hq
    exact qcnn10 hx capl hcl hm hx0 hq hy5
  | .inr q, hq =>
    obtain ⟨rfl, hq⟩ := hq
    exact qcns10 hx capl hcl hm hx0 hq hy5
set_option maxRecDepth 100000 in
theorem qbs10 {xs ys : List Ev} (hx : xs.take ys.length = ys) (capl : Nat) (hcl : ys.length ≤ capl) (hm : xs.length ≤ maxLen) (hx0 : (enc ys).1 ≠ []) (hy5 : ys.length ≤ 5000) : RunL P 1 (tlC 8 b5) (u8s_10 ys.length capl (recs mkEv xs) (enc ys).2 (enc ys).1) (finQ P Go.Proofs.Try.f5 fun v _ => v = .bo true) := by
  have ok8 := ok_tl (P := P) (W := noW) 8 ok5L
  refine cut_part (W := noW) (LA := noL) (r := 12) EL_f EL_s mo ok8 (by kernel_rfl) (L12s_10 ys.length capl (recs mkEv xs)) (fun (q : (Int × List UInt8) ⊕ (Int × List UInt8 × List Ev)) => match q with | .inl q => q = ((enc ys).2, (enc ys).1) ∧ (decode []) = [] | .inr q => q = ((enc ys).2, (enc ys).1, (decode [])) ∧ (decode []) ≠ []) (pbs10 hx capl hcl hm (enc ys).2 (enc ys).1 _ _ ⟨fun h => ⟨rfl, h⟩, fun h => ⟨rfl, h⟩⟩) ?_
  intro q hq
  match q, hq with
  | .inl q, hq =>
    obtain ⟨rfl, hq⟩ := hq
    exact qcsn10 hx capl hcl hm hx0 hq hy5
  | .inr q, hq =>
    obtain ⟨rfl, hq⟩ := hq
    exact qcss10 hx capl hcl hm hx0 hq hy5
set_option maxRecDepth 100000 in
theorem run5_10 {xs ys : List Ev} (hx : xs.take ys.length = ys) (capl : Nat) (hcl : ys.length ≤ capl) (hm : xs.length ≤ maxLen) : RunF P 1 Go.Proofs.Try.f5 [.sl 0 0 ys.length 3 (some capl), .sn] [.cells (recs mkEv xs) false] fun v _ => v = .bo true := by
  refine runF_of ?_
  refine cut_part (W := noW) (LA := noL) (cs := b5) (r := 8) EL_f EL_s mo ok5L (by kernel_rfl) (L8_10 ys.length capl (recs mkEv xs)) (fun (q : Int ⊕ (Int × List UInt8)) => grE (ys : List Ev) = false ∧ ([] : List UInt8).length ≤ 300000 ∧ match q with | .inl q => q = (enc ys).2 ∧ (enc ys).1 = [] | .inr q => q = ((enc ys).2, (enc ys).1) ∧ (enc ys).1 ≠ []) (pa10 hx capl hcl hm _ _ (fun _ => rfl) fun hg h3 => ⟨fun h => ⟨hg, h3, rfl, h⟩, fun h => ⟨hg, h3, rfl, h⟩⟩) ?_
  intro q hq
  match q, hq with
  | .inl q, hq =>
    obtain ⟨hg, h3, rfl, hq⟩ := hq
    exact qbn10 hx capl hcl hm hq (gr_small hg).1
  | .inr q, hq =>
    obtain ⟨hg, h3, rfl, hq⟩ := hq
    exact qbs10 hx capl hcl hm hq (gr_small hg).1
set_option maxRecDepth 100000 in
theorem qcnn11 {xs ys : List Ev} (hx : xs.take ys.length = ys) (capl : Nat) (hcl : ys.length ≤ capl) (hm : xs.length ≤ maxLen) {bs zs : List UInt8} (hz : bs.take zs.length = zs) (capb : Nat) (hcb : zs.length ≤ capb) (hx0 : (enc ys).1 = []) (hm0 : (decode zs) = []) (h3 : zs.length ≤ 300000) (hy5 : ys.length ≤ 5000) : RunL P 2 (tlC 12 (tlC 8 b5)) (u12nn_11 ys.length capl (recs mkEv xs) zs.length capb (recs mkB bs) (enc ys).2) (finQ P Go.Proofs.Try.f5 fun v _ => v = .bo true) := by
  have ok12 := ok_tl (P := P) (W := noW) 12 (ok_tl (P := P) (W := noW) 8 ok5L)
  have ok15 := ok_tl (P := P) (W := noW) 15 ok12
  refine cut_part (W := noW) (LA := noL) (r := 15) EL_f EL_s mo ok12 (by kernel_rfl) (L15n_11 ys.length capl (recs mkEv xs) zs.length capb (recs mkB bs)) (fun (q : Unit ⊕ List Ev) => match q with | .inl _ => (ys ++ []) = [] | .inr q => q = (ys ++ []) ∧ (ys ++ []) ≠ []) (pcnn11 hx capl hcl hm hz capb hcb (enc ys).2 h3 hy5 _ _ (fun _ => rfl) ?_) ?_
  · intro he h1 h2
    have hc : decode ((enc ys).1 ++ zs) = ys ++ (decode zs) := back_cat he (by rw [hx0]; (try simp only [List.length_nil]); omega) (by rw [hm0]; (try simp only [List.length_nil]); omega)
    rw [hx0] at hc; rw [hm0] at hc
    rw [hc]
    exact ⟨fun h => h, fun h => ⟨rfl, h⟩⟩
  · intro q hq
    match q, hq with
    | .inl _, hq =>
      exact cut_last (W := noW) (LA := noL) EL_f EL_s mo ok15 (pdnn11 hx capl hcl hm hz capb hcb hy5 (List.append_eq_nil_iff.1 hq).1 _ (fun _ => rfl))
    | .inr q, hq =>
      obtain ⟨rfl, hq⟩ := hq
      exact cut_last (W := noW) (LA := noL) EL_f EL_s mo ok15 (pdns11 hx capl hcl hm hz capb hcb hy5 hq _ (fun _ => rfl))
set_option maxRecDepth 100000 in
theorem qcns11 {xs ys : List Ev} (hx : xs.take ys.length = ys) (capl : Nat) (hcl : ys.length ≤ capl) (hm : xs.length ≤ maxLen) {bs zs : List UInt8} (hz : bs.take zs.length = zs) (capb : Nat) (hcb : zs.length ≤ capb) (hx0 : (enc ys).1 = []) (hm0 : (decode zs) ≠ []) (h3 : zs.length ≤ 300000) (hy5 : ys.length ≤ 5000) : RunL P 2 (tlC 12 (tlC 8 b5)) (u12ns_11 ys.length capl (recs mkEv xs) zs.length capb (recs mkB bs) (enc ys).2 (decode zs)) (finQ P Go.Proofs.Try.f5 fun v _ => v = .bo true) := by
  have ok12 := ok_tl (P := P) (W := noW) 12 (ok_tl (P := P) (W := noW) 8 ok5L)
  have ok15 := ok_tl (P := P) (W := noW) 15 ok12
  refine cut_part (W := noW) (LA := noL) (r := 15) EL_f EL_s mo ok12 (by kernel_rfl) (L15s_11 ys.length capl (recs mkEv xs) zs.length capb (recs mkB bs)) (fun (q : List Ev ⊕ (List Ev × List Ev)) => match q with | .inl m => m = (decode zs) ∧ (ys ++ (decode zs)) = [] | .inr q => q = ((decode zs), (ys ++ (decode zs))) ∧ (ys ++ (decode zs)) ≠ []) (pcns11 hx capl hcl hm hz capb hcb (enc ys).2 (decode zs) (decode_len _) h3 hy5 _ _ (fun _ => rfl) ?_) ?_
  · intro he h1 h2
    have hc : decode ((enc ys).1 ++ zs) = ys ++ (decode zs) := back_cat he (by rw [hx0]; (try simp only [List.length_nil]); omega) (by (try simp only [List.length_nil]); omega)
    rw [hx0] at hc
    rw [hc]
    exact ⟨fun h => ⟨rfl, h⟩, fun h => ⟨rfl, h⟩⟩
  · intro q hq
    match q, hq with
    | .inl m, hq =>
      obtain ⟨rfl, hq⟩ := hq
      exact cut_last (W := noW) (LA := noL) EL_f EL_s mo ok15 (pdsn11 hx capl hcl hm hz capb hcb (decode zs) (decode_len _) hy5 (List.append_eq_nil_iff.1 hq).1 (List.append_eq_nil_iff.1 hq).2 _ (fun _ => rfl))
    | .inr q, hq =>
      obtain ⟨rfl, hq⟩ := hq
      exact cut_last (W := noW) (LA := noL) EL_f EL_s mo ok15 (pdss11 hx capl hcl hm hz capb hcb (decode zs) (decode_len _) hy5 hq _ (fun _ => rfl))
set_option maxRecDepth 100000 in
theorem qcsn11 {xs ys : List Ev} (hx : xs.take ys.length = ys) (capl : Nat) (hcl : ys.length ≤ capl) (hm : xs.length ≤ maxLen) {bs zs : List UInt8} (hz : bs.take zs.length = zs) (capb : Nat) (hcb : zs.length ≤ capb) (hx0 : (enc ys).1 ≠ []) (hm0 : (decode zs) = []) (h3 : zs.length ≤ 300000) (hy5 : ys.length ≤ 5000) : RunL P 2 (tlC 12 (tlC 8 b5)) (u12sn_11 ys.length capl (recs mkEv xs) zs.length capb (recs mkB bs) (enc ys).2 (enc ys).1) (finQ P Go.Proofs.Try.f5 fun v _ => v = .bo true) := by
  have ok12 := ok_tl (P := P) (W := noW) 12 (ok_tl (P := P) (W := noW) 8 ok5L)
  have ok15 := ok_tl (P := P) (W := noW) 15 ok12
  refine cut_part (W := noW) (LA := noL) (r := 15) EL_f EL_s mo ok12 (by kernel_rfl) (L15n_11 ys.length capl (recs mkEv xs) zs.length capb (recs mkB bs)) (fun (q : Unit ⊕ List Ev) => match q with | .inl _ => (ys ++ []) = [] | .inr q => q = (ys ++ []) ∧ (ys ++ []) ≠ []) (pcsn11 hx capl hcl hm hz capb hcb (enc ys).2 (enc ys).1 hx0 (enc_len _) h3 hy5 _ _ (fun _ => rfl) ?_) ?_
  · intro he h1 h2
    have hc : decode ((enc ys).1 ++ zs) = ys ++ (decode zs) := back_cat he (by (try simp only [List.length_nil]); omega) (by rw [hm0]; (try simp only [List.length_nil]); omega)
    rw [hm0] at hc
    rw [hc]
    exact ⟨fun h => h, fun h => ⟨rfl, h⟩⟩
  · intro q hq
    match q, hq with
    | .inl _, hq =>
      exact cut_last (W := noW) (LA := noL) EL_f EL_s mo ok15 (pdnn11 hx capl hcl hm hz capb hcb hy5 (List.append_eq_nil_iff.1 hq).1 _ (fun _ => rfl))
    | .inr q, hq =>
      obtain ⟨rfl, hq⟩ := hq
      exact cut_last (W := noW) (LA := noL) EL_f EL_s mo ok15 (pdns11 hx capl hcl hm hz capb hcb hy5 hq _ (fun _ => rfl))
set_option maxRecDepth 100000 in
theorem qcss11 {xs ys : List Ev} (hx : xs.take ys.length = ys) (capl : Nat) (hcl : ys.length ≤ capl) (hm : xs.length ≤ maxLen) {bs zs : List UInt8} (hz : bs.take zs.length = zs) (capb : Nat) (hcb : zs.length ≤ capb) (hx0 : (enc ys).1 ≠ []) (hm0 : (decode zs) ≠ []) (h3 : zs.length ≤ 300000) (hy5 : ys.length ≤ 5000) : RunL P 2 (tlC 12 (tlC 8 b5)) (u12ss_11 ys.length capl (recs mkEv xs) zs.length capb (recs mkB bs) (enc ys).2 (enc ys).1 (decode zs)) (finQ P Go.Proofs.Try.f5 fun v _ => v = .bo true) := by
  have ok12 := ok_tl (P := P) (W := noW) 12 (ok_tl (P := P) (W := noW) 8 ok5L)
  have ok15 := ok_tl (P := P) (W := noW) 15 ok12
  refine cut_part (W := noW) (LA := noL) (r := 15) EL_f EL_s mo ok12 (by kernel_rfl) (L15s_11 ys.length capl (recs mkEv xs) zs.length capb (recs mkB bs)) (fun (q : List Ev ⊕ (List Ev × List Ev)) => match q with | .inl m => m = (decode zs) ∧ (ys ++ (decode zs)) = [] | .inr q => q = ((decode zs), (ys ++ (decode zs))) ∧ (ys ++ (decode zs)) ≠ []) (pcss11 hx capl hcl hm hz capb hcb (enc ys).2 (enc ys).1 hx0 (enc_len _) (decode zs) (decode_len _) h3 hy5 _ _ (fun _ => rfl) ?_) ?_
  · intro he h1 h2
    have hc : decode ((enc ys).1 ++ zs) = ys ++ (decode zs) := back_cat he (by (try simp only [List.length_nil]); omega) (by (try simp only [List.length_nil]); omega)
    skip
    rw [hc]
    exact ⟨fun h => ⟨rfl, h⟩, fun h => ⟨rfl, h⟩⟩
  · intro q hq
    match q, hq with
    | .inl m, hq =>
      obtain ⟨rfl, hq⟩ := hq
      exact cut_last (W := noW) (LA := noL) EL_f EL_s mo ok15 (pdsn11 hx capl hcl hm hz capb hcb (decode zs) (decode_len _) hy5 (List.append_eq_nil_iff.1 hq).1 (List.append_eq_nil_iff.1 hq).2 _ (fun _ => rfl))
    | .inr q, hq =>
      obtain ⟨rfl, hq⟩ := hq
      exact cut_last (W := noW) (LA := noL) EL_f EL_s mo ok15 (pdss11 hx capl hcl hm hz capb hcb (decode zs) (decode_len _) hy5 hq _ (fun _ => rfl))
set_option maxRecDepth 100000 in
theorem qbn11 {xs ys : List Ev} (hx : xs.take ys.length = ys) (capl : Nat) (hcl : ys.length ≤ capl) (hm : xs.length ≤ maxLen) {bs zs : List UInt8} (hz : bs.take zs.length = zs) (capb : Nat) (hcb : zs.length ≤ capb) (hx0 : (enc ys).1 = []) (h3 : zs.length ≤ 300000) (hy5 : ys.length ≤ 5000) : RunL P 2 (tlC 8 b5) (u8n_11 ys.length capl (recs mkEv xs) zs.length capb (recs mkB bs) (enc ys).2) (finQ P Go.Proofs.Try.f5 fun v _ => v = .bo true) := by
  have ok8 := ok_tl (P := P) (W := noW) 8 ok5L
  refine cut_part (W := noW) (LA := noL) (r := 12) EL_f EL_s mo ok8 (by kernel_rfl) (L12n_11 ys.length capl (recs mkEv xs) zs.length capb (recs mkB bs)) (fun (q : Int ⊕ (Int × List Ev)) => match q with | .inl q => q = (enc ys).2 ∧ (decode zs) = [] | .inr q => q = ((enc ys).2, (decode zs)) ∧ (decode zs) ≠ []) (pbn11 hx capl hcl hm hz capb hcb (enc ys).2 _ _ ⟨fun h => ⟨rfl, h⟩, fun h => ⟨rfl, h⟩⟩ h3) ?_
  intro q hq
  match q, hq with
  | .inl q, hq =>
    obtain ⟨rfl, hq⟩ := hq
    exact qcnn11 hx capl hcl hm hz capb hcb hx0 hq h3 hy5
  | .inr q, hq =>
    obtain ⟨rfl, hq⟩ := hq
    exact qcns11 hx capl hcl hm hz capb hcb hx0 hq h3 hy5
set_option maxRecDepth 100000 in
theorem qbs11 {xs ys : List Ev} (hx : xs.take ys.length = ys) (capl : Nat) (hcl : ys.length ≤ capl) (hm : xs.length ≤ maxLen) {bs zs : List UInt8} (hz : bs.take zs.length = zs) (capb : Nat) (hcb : zs.length ≤ capb) (hx0 : (enc ys).1 ≠ []) (h3 : zs.length ≤ 300000) (hy5 : ys.length ≤ 5000) : RunL P 2 (tlC 8 b5) (u8s_11 ys.length capl (recs mkEv xs) zs.length capb (recs mkB bs) (enc ys).2 (enc ys).1) (finQ P Go.Proofs.Try.f5 fun v _ => v = .bo true) := by
  have ok8 := ok_tl (P := P) (W := noW) 8 ok5L
  refine cut_part (W := noW) (LA := noL) (r := 12) EL_f EL_s mo ok8 (by kernel_rfl) (L12s_11 ys.length capl (recs mkEv xs) zs.length capb (recs mkB bs)) (fun (q : (Int × List UInt8) ⊕ (Int × List UInt8 × List Ev)) => match q with | .inl q => q = ((enc ys).2, (enc ys).1) ∧ (decode zs) = [] | .inr q => q = ((enc ys).2, (enc ys).1, (decode zs)) ∧ (decode zs) ≠ []) (pbs11 hx capl hcl hm hz capb hcb (enc ys).2 (enc ys).1 _ _ ⟨fun h => ⟨rfl, h⟩, fun h => ⟨rfl, h⟩⟩ h3) ?_
  intro q hq
  match q, hq with
  | .inl q, hq =>
    obtain ⟨rfl, hq⟩ := hq
    exact qcsn11 hx capl hcl hm hz capb hcb hx0 hq h3 hy5
  | .inr q, hq =>
    obtain ⟨rfl, hq⟩ := hq
    exact qcss11 hx capl hcl hm hz capb hcb hx0 hq h3 hy5
set_option maxRecDepth 100000 in
theorem run5_11 {xs ys : List Ev} (hx : xs.take ys.length = ys) (capl : Nat) (hcl : ys.length ≤ capl) (hm : xs.length ≤ maxLen) {bs zs : List UInt8} (hz : bs.take zs.length = zs) (capb : Nat) (hcb : zs.length ≤ capb) : RunF P 2 Go.Proofs.Try.f5 [.sl 0 0 ys.length 3 (some capl), .sl 1 0 zs.length 1 (some capb)] [.cells (recs mkEv xs) false, .cells (recs mkB bs) false] fun v _ => v = .bo true := by
  refine runF_of ?_
  refine cut_part (W := noW) (LA := noL) (cs := b5) (r := 8) EL_f EL_s mo ok5L (by kernel_rfl) (L8_11 ys.length capl (recs mkEv xs) zs.length capb (recs mkB bs)) (fun (q : Int ⊕ (Int × List UInt8)) => grE (ys : List Ev) = false ∧ (zs : List UInt8).length ≤ 300000 ∧ match q with | .inl q => q = (enc ys).2 ∧ (enc ys).1 = [] | .inr q => q = ((enc ys).2, (enc ys).1) ∧ (enc ys).1 ≠ []) (pa11 hx capl hcl hm hz capb hcb _ _ (fun _ => rfl) fun hg h3 => ⟨fun h => ⟨hg, h3, rfl, h⟩, fun h => ⟨hg, h3, rfl, h⟩⟩) ?_
  intro q hq
  match q, hq with
  | .inl q, hq =>
    obtain ⟨hg, h3, rfl, hq⟩ := hq
    exact qbn11 hx capl hcl hm hz capb hcb hq h3 (gr_small hg).1
  | .inr q, hq =>
    obtain ⟨hg, h3, rfl, hq⟩ := hq
    exact qbs11 hx capl hcl hm hz capb hcb hq h3 (gr_small hg).1
end Go.Proofs.Ytnfbgfmdjaodgaa.ScriptRun
