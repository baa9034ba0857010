/- What the printed functions of package sum tell, from some number of rounds on. -/
import Derived.Test.YtjekkpnmpcpgaaaPSumUpdatesx2
import Derived.Test.YtjekkpnmpcpgaaaSumMath
namespace Go.Proofs.Ytjekkpnmpcpgaaa.EvSumUpdates
open Go.RowKit Go.Proofs.Ytjekkpnmpcpgaaa.PSumUpdates Go.Proofs.YtjekkpnmpcpgaaaW.PrintWords Go.Proofs.YtjekkpnmpcpgaaaW.PrintLast Go.Proofs.Ytjekkpnmpcpgaaa.SumMath

theorem ev_pos {α : Type} {c : Prop} [Decidable c] {f g : Nat → Option α} {r : α} (h : c) (k : Ev f r) : Ev (fun n => if c then f n else g n) r := Ev.congr (fun _ => if_pos h) k
theorem ev_neg {α : Type} {c : Prop} [Decidable c] {f g : Nat → Option α} {r : α} (h : ¬ c) (k : Ev g r) : Ev (fun n => if c then f n else g n) r := Ev.congr (fun _ => if_neg h) k
theorem ev_now {α : Type} {a r : α} (h : a = r) : Ev (fun _ => some a) r := h ▸ Ev.now a

theorem fold_ev : ∀ (m : Nat) (n : Int), 0 ≤ n → n.toNat = m → n ≤ 4611686018427387904 → Ev (fun k => sum_fold.f k n) (F n) := by
  intro m
  induction m using Nat.strongRecOn with
  | _ m ih =>
    intro n h0 hm h
    by_cases c : n > 65535
    · refine Ev.step (f := fun k => sum_fold.f k (n / 65536 + n % 65536)) (fun k => ?_) ?_
      · simp only [sum_fold.f, sum_fold.l0]
        rw [if_pos c, and_low, wrap_id (by omega) (by omega)]
      · rw [← F_step c]
        exact ih _ (by omega) _ (by omega) rfl (by omega)
    · refine ⟨1, fun k hk => ?_⟩
      obtain ⟨k, rfl⟩ : ∃ j, k = j + 1 := ⟨k - 1, by omega⟩
      simp only [sum_fold.f, sum_fold.l0]
      rw [if_neg c, F_small h0 (by omega)]
theorem fold_is {n : Int} (h0 : 0 ≤ n) (h : n ≤ 4611686018427387904) : Ev (fun k => sum_fold.f k n) (F n) := fold_ev _ n h0 rfl h

def tv (t : Bool) : Int := if t then 255 else 0
theorem xor_tv (t : Bool) (b : UInt8) : Go.bits .xor .u8 (b.toNat : Int) (tv t) = wv t b := by
  cases t
  · exact xor_0 b
  · exact xor_255 b
theorem bt_get (s : ByteArray) (i : Nat) (h : i < s.data.toList.length) : bt s (i : Int) = ((s.data.toList[i]).toNat : Int) := by
  have h' : i < s.size := by simpa using h
  unfold bt
  rw [dif_pos (by simpa using h')]
  rfl
theorem size_len (s : ByteArray) : s.size = s.data.toList.length := by simp

theorem add_ev (t : Bool) (s : ByteArray) (a : Nat) (hs : s.data.toList.length ≤ 1099511627776) (ha : a ≤ 70368744177664) (d : Nat) : ∀ (i : Nat) (n : Int), i + d = s.data.toList.length → 0 ≤ n → n + 65280 * (d : Int) ≤ 4611686018427387904 →
    Ev (fun k => sum_add.l0 k n (a : Int) s (tv t) (s.size : Int) (i : Int)) (n + ws t (pe true (a + i)) (s.data.toList.drop i)) := by
  induction d with
  | zero =>
    intro i n hi h0 hb
    refine ⟨1, fun k hk => ?_⟩
    obtain ⟨k, rfl⟩ : ∃ j, k = j + 1 := ⟨k - 1, by omega⟩
    simp only [sum_add.l0]
    rw [if_neg (by rw [size_len]; omega), List.drop_of_length_le (by omega)]
    simp [ws]
  | succ d ih =>
    intro i n hi h0 hb
    have hlt : i < s.data.toList.length := by omega
    have hsz : (s.size : Int) = (s.data.toList.length : Int) := by rw [size_len]
    have hv := wv_range t (s.data.toList[i])
    have hw : wrap64 (Go.bits .xor .u8 (bt s (i : Int)) (tv t)) = wv t (s.data.toList[i]) := by
      rw [bt_get s i hlt, xor_tv]; exact wrap_id (by omega) (by omega)
    have hai : wrap64 ((a : Int) + (i : Int)) = ((a + i : Nat) : Int) := by rw [wrap_id (by omega) (by omega)]; omega
    have hi1 : wrap64 ((i : Int) + 1) = ((i + 1 : Nat) : Int) := by rw [wrap_id (by omega) (by omega)]; omega
    have hmod : Int.tmod ((a + i : Nat) : Int) 2 = (((a + i) % 2 : Nat) : Int) := by
      rw [Int.tmod_eq_emod_of_nonneg (by omega)]; omega
    have hdrop : s.data.toList.drop i = s.data.toList[i] :: s.data.toList.drop (i + 1) := List.drop_eq_getElem_cons hlt
    rw [hdrop]
    by_cases c : (a + i) % 2 = 0
    · refine Ev.step (f := fun k => sum_add.l0 k (n + wv t (s.data.toList[i]) * 256) (a : Int) s (tv t) (s.size : Int) ((i + 1 : Nat) : Int)) (fun k => ?_) ?_
      · simp only [sum_add.l0]
        rw [if_pos (by omega), if_pos (by omega), if_pos (by omega), hw, hai, hi1, hmod, if_pos (by omega), wrap_id (x := wv t _ * 256) (by omega) (by omega), wrap_id (by omega) (by omega)]
      · have h := ih (i + 1) (n + wv t (s.data.toList[i]) * 256) (by omega) (by omega) (by omega)
        have e : n + wv t (s.data.toList[i]) * 256 + ws t (pe true (a + (i + 1))) (s.data.toList.drop (i + 1)) = n + ws t (pe true (a + i)) (s.data.toList[i] :: s.data.toList.drop (i + 1)) := by
          rw [pe_even (n := a + i) c]
          simp only [ws, if_true]
          rw [← Nat.add_assoc, ← pe_succ, pe_even c]; omega
        rw [← e]; exact h
    · refine Ev.step (f := fun k => sum_add.l0 k (n + wv t (s.data.toList[i])) (a : Int) s (tv t) (s.size : Int) ((i + 1 : Nat) : Int)) (fun k => ?_) ?_
      · simp only [sum_add.l0]
        rw [if_pos (by omega), if_pos (by omega), if_pos (by omega), hw, hai, hi1, hmod, if_neg (by omega), wrap_id (by omega) (by omega)]
      · have h := ih (i + 1) (n + wv t (s.data.toList[i])) (by omega) (by omega) (by omega)
        have e1 : pe true (a + i) = false := by unfold pe; rw [if_neg c]; rfl
        have e2 : pe true (a + (i + 1)) = true := pe_even (by omega)
        have e : n + wv t (s.data.toList[i]) + ws t (pe true (a + (i + 1))) (s.data.toList.drop (i + 1)) = n + ws t (pe true (a + i)) (s.data.toList[i] :: s.data.toList.drop (i + 1)) := by
          rw [e1, e2]
          simp only [ws, Bool.false_eq_true, if_false, Bool.not_false]; omega
        rw [← e]; exact h
theorem add_is (t : Bool) (s : ByteArray) (a : Nat) (n : Int) (hs : s.data.toList.length ≤ 1099511627776) (ha : a ≤ 70368744177664) (h0 : 0 ≤ n) (h : n ≤ 2305843009213693952) :
    Ev (fun k => sum_add.f k n (a : Int) s (tv t)) (n + ws t (pe true a) s.data.toList) := by
  have := add_ev t s a hs ha s.data.toList.length 0 n (by omega) h0 (by omega)
  simpa [sum_add.f] using this

/-- The text that pieces are. -/
def cat : List ByteArray → List UInt8
  | [] => []
  | s :: r => s.data.toList ++ cat r
theorem Of_ev (l : List ByteArray) (hl : l.length ≤ 1099511627776) (d : Nat) : ∀ (i a : Nat) (T : Int), i + d = l.length → (cat (l.drop i)).length + a ≤ 1099511627776 → 0 ≤ T → 
    Ev (fun k => sum_Of.l0 k (F T) (a : Int) l (l.length : Int) (i : Int)) (65535 - F (T + ws false (pe true a) (cat (l.drop i)))) := by
  induction d with
  | zero =>
    intro i a T hi hc h0
    refine ⟨1, fun k hk => ?_⟩
    obtain ⟨k, rfl⟩ : ∃ j, k = j + 1 := ⟨k - 1, by omega⟩
    have hF := F_range T
    simp only [sum_Of.l0]
    rw [if_neg (by omega), wrap_id (by omega) (by omega), List.drop_of_length_le (by omega)]
    simp [cat, ws]
  | succ d ih =>
    intro i a T hi hc h0
    have hlt : i < l.length := by omega
    have hF := F_range T
    have hdrop : l.drop i = l[i] :: l.drop (i + 1) := List.drop_eq_getElem_cons hlt
    have hrd : rdOf ByteArray.empty l (i : Int) = l[i] := by simp [rdOf, List.getD_eq_getElem?_getD, List.getElem?_eq_getElem hlt]
    rw [hdrop] at hc ⊢
    simp only [cat, List.length_append] at hc ⊢
    have hi1 : wrap64 ((i : Int) + 1) = ((i + 1 : Nat) : Int) := by rw [wrap_id (by omega) (by omega)]; omega
    have ha1 : wrap64 ((a : Int) + (l[i].size : Int)) = ((a + l[i].data.toList.length : Nat) : Int) := by rw [size_len, wrap_id (by omega) (by omega)]; omega
    have hr := ws_range false l[i].data.toList (pe true a)
    refine Ev.step (f := fun k => (sum_add.f k (F T) (a : Int) l[i] 0).bind fun t102 => ((sum_fold.f k t102).bind fun t103 => (sum_Of.l0 k t103 ((a + l[i].data.toList.length : Nat) : Int) l (l.length : Int) ((i + 1 : Nat) : Int)))) (fun k => ?_) ?_
    · simp only [sum_Of.l0]
      rw [if_pos (by omega), if_pos (by omega), if_pos (by omega), hrd, hi1, ha1]
    · refine Ev.bind (add_is false l[i] a (F T) (by omega) (by omega) (by omega) (by omega)) ?_
      refine Ev.bind (fold_is (by omega) (by omega)) ?_
      rw [F_add h0 hr.1]
      have h := ih (i + 1) (a + l[i].data.toList.length) (T + ws false (pe true a) l[i].data.toList) (by omega) (by omega) (by omega)
      rw [ws_append, pe_add, ← Int.add_assoc]
      exact h
theorem Of_is (l : List ByteArray) (hl : l.length ≤ 1099511627776) (hc : (cat l).length ≤ 1099511627776) : Ev (fun k => sum_Of.f k l) (65535 - F (ws false true (cat l))) := by
  have := Of_ev l hl l.length 0 0 0 (by omega) (by simpa using hc) (by omega)
  simpa [sum_Of.f, pe, F] using this
theorem Right_is (l : List ByteArray) (hl : l.length ≤ 1099511627776) (hc : (cat l).length ≤ 1099511627776) : Ev (fun k => sum_Right.f k l) (65535 - F (ws false true (cat l)) == 0) :=
  Ev.bind (Of_is l hl hc) (Ev.now _)
theorem awake_is : Ev (fun k => interpreterlaw02_awake.f k) true := by
  unfold interpreterlaw02_awake.f
  refine Ev.bind (Of_is _ (by decide) (by decide)) (ev_pos (by decide) ?_)
  refine Ev.bind (Of_is _ (by decide) (by decide)) (ev_pos (by decide) ?_)
  refine Ev.bind (Right_is _ (by decide) (by decide)) (ev_now (by decide))
theorem even_is (a : ByteArray) (h : a.data.toList.length ≤ 1099511627776) : ∃ p, sum_even.f a = some p ∧ p.data.toList = padl a.data.toList := by
  unfold sum_even.f padl
  by_cases c : a.data.toList.length % 2 = 1
  · rw [if_pos (by rw [size_len]; omega), if_pos (by rw [size_len]; omega), if_pos c]
    exact ⟨_, rfl, by simp⟩
  · rw [if_neg (by rw [size_len]; omega), if_neg c]
    exact ⟨_, rfl, rfl⟩
/-- A sum, kept up. -/
def U (n : Int) (old new : List UInt8) : Int := 65535 - F (65535 - n % 65536 + ws true true (padl old) + ws false true new)
theorem Update_is (n : Int) (old new : ByteArray) (h1 : old.data.toList.length ≤ 1073741824) (h2 : new.data.toList.length ≤ 1073741824) : Ev (fun k => sum_Update.f k n old new) (U n old.data.toList new.data.toList) := by
  obtain ⟨p, hp, hl⟩ := even_is old (by omega)
  have hpl := padl_len old.data.toList
  have hr1 := ws_range true (padl old.data.toList) true
  have hr2 := ws_range false new.data.toList true
  unfold sum_Update.f
  rw [hp]
  simp only [Option.bind_some]
  rw [and_low, wrap_id (x := 65535 - n % 65536) (by omega) (by omega)]
  refine Ev.bind (by have := add_is true p 0 (65535 - n % 65536) (by rw [hl]; omega) (by omega) (by omega) (by omega); rw [hl] at this; exact this) ?_
  rw [pe_zero]
  refine Ev.bind (fold_is (by omega) (by omega)) ?_
  have hF := F_range (65535 - n % 65536 + ws true true (padl old.data.toList))
  refine Ev.bind (add_is false new 0 _ (by omega) (by omega) hF.1 (by omega)) ?_
  rw [pe_zero]
  refine Ev.bind (fold_is (by omega) (by omega)) ?_
  rw [F_add (by omega) (by omega)]
  have hF2 := F_range (65535 - n % 65536 + ws true true (padl old.data.toList) + ws false true new.data.toList)
  rw [wrap_id (by omega) (by omega)]
  exact Ev.now _
theorem words_ev (p : ByteArray) (hs : p.data.toList.length ≤ 1073741824) (he : p.data.toList.length % 2 = 0) (d : Nat) : ∀ (i : Nat) (acc : List Int), i + 2 * d = p.data.toList.length → acc.length ≤ i →
    Ev (fun k => interpreterref02_Words.l0 k p acc (i : Int)) (acc ++ words (p.data.toList.drop i)) := by
  induction d with
  | zero =>
    intro i acc hi ha
    refine ⟨1, fun k hk => ?_⟩
    obtain ⟨k, rfl⟩ : ∃ j, k = j + 1 := ⟨k - 1, by omega⟩
    simp only [interpreterref02_Words.l0]
    rw [if_neg (by rw [size_len]; omega), List.drop_of_length_le (by omega)]
    simp [words]
  | succ d ih =>
    intro i acc hi ha
    have hsz : (p.size : Int) = (p.data.toList.length : Int) := by rw [size_len]
    have hlt : i < p.data.toList.length := by omega
    have hlt' : i + 1 < p.data.toList.length := by omega
    have hi1 : wrap64 ((i : Int) + 1) = ((i + 1 : Nat) : Int) := by rw [wrap_id (by omega) (by omega)]; omega
    have hi2 : wrap64 ((i : Int) + 2) = ((i + 2 : Nat) : Int) := by rw [wrap_id (by omega) (by omega)]; omega
    have hdrop : p.data.toList.drop i = p.data.toList[i] :: p.data.toList[i + 1] :: p.data.toList.drop (i + 2) := by
      rw [List.drop_eq_getElem_cons hlt, List.drop_eq_getElem_cons hlt']
    have b0 := (p.data.toList[i]).toNat_lt
    have b1 := (p.data.toList[i + 1]).toNat_lt
    have hv : wrap64 ((wrap64 (256 * (wrap64 (bt p (i : Int))))) + (wrap64 (bt p ((i + 1 : Nat) : Int)))) = ((p.data.toList[i]).toNat : Int) * 256 + ((p.data.toList[i + 1]).toNat : Int) := by
      rw [bt_get p i hlt, bt_get p (i + 1) hlt', wrap_id (x := ((p.data.toList[i]).toNat : Int)) (by omega) (by omega), wrap_id (x := ((p.data.toList[i + 1]).toNat : Int)) (by omega) (by omega), wrap_id (x := 256 * _) (by omega) (by omega), wrap_id (by omega) (by omega)]
      omega
    refine Ev.step (f := fun k => interpreterref02_Words.l0 k p (acc ++ [((p.data.toList[i]).toNat : Int) * 256 + ((p.data.toList[i + 1]).toNat : Int)]) ((i + 2 : Nat) : Int)) (fun k => ?_) ?_
    · simp only [interpreterref02_Words.l0]
      rw [if_pos (by omega), if_pos (by omega), hi1, if_pos (by omega), if_pos (by omega), if_pos (by omega), hv, hi2]
    · have h := ih (i + 2) (acc ++ [((p.data.toList[i]).toNat : Int) * 256 + ((p.data.toList[i + 1]).toNat : Int)]) (by omega) (by simp; omega)
      rw [hdrop]
      simp only [words]
      rw [List.append_assoc] at h
      exact h
theorem Words_is (s : ByteArray) (hs : s.data.toList.length ≤ 1000000) : Ev (fun k => interpreterref02_Words.f k s) (words (padl s.data.toList)) := by
  have J : ∀ (p : ByteArray), p.data.toList = padl s.data.toList → Ev (fun k => interpreterref02_Words.j0 k p ([] : List Int)) (words (padl s.data.toList)) := by
    intro p hp
    refine Ev.step (fun k => by rw [interpreterref02_Words.j0]) ?_
    have hl := padl_len s.data.toList
    have he := padl_even s.data.toList
    have := words_ev p (by rw [hp]; omega) (by rw [hp]; omega) (p.data.toList.length / 2) 0 [] (by rw [hp]; omega) (by simp)
    rw [hp] at this
    simpa using this
  unfold interpreterref02_Words.f
  by_cases c : s.data.toList.length % 2 = 1
  · refine ev_pos (by rw [size_len]; omega) ?_
    simp only [Option.bind_some]
    refine ev_pos (by rw [size_len, size_len, show (strOfNums ([0] : List Int)).data.toList.length = 1 from by simp [strOfNums]]; omega) (J _ ?_)
    rw [ByteArray.data_append, Array.toList_append]
    unfold padl
    rw [if_pos c]
    simp [strOfNums]
  · refine ev_neg (by rw [size_len]; omega) (J _ ?_)
    unfold padl
    rw [if_neg c]
theorem tot1_ev : ∀ (m : Nat) (n : Int), 0 ≤ n → n.toNat = m → n ≤ 4611686018427387904 → Ev (fun k => interpreterref02_Total.l1 k n) (F n) := by
  intro m
  induction m using Nat.strongRecOn with
  | _ m ih =>
    intro n h0 hm h
    by_cases c : n > 65535
    · refine Ev.step (f := fun k => interpreterref02_Total.l1 k (n / 65536 + n % 65536)) (fun k => ?_) ?_
      · simp only [interpreterref02_Total.l1]
        rw [if_pos c, Int.tdiv_eq_ediv_of_nonneg h0, Int.tmod_eq_emod_of_nonneg h0, wrap_id (x := n / 65536) (by omega) (by omega), wrap_id (by omega) (by omega)]
      · rw [← F_step c]
        exact ih _ (by omega) _ (by omega) rfl (by omega)
    · refine ⟨1, fun k hk => ?_⟩
      obtain ⟨k, rfl⟩ : ∃ j, k = j + 1 := ⟨k - 1, by omega⟩
      simp only [interpreterref02_Total.l1]
      rw [if_neg c, F_small h0 (by omega)]
theorem tot0_ev (l : List Int) (hl : l.length ≤ 1073741824) (hx : ∀ x ∈ l, 0 ≤ x ∧ x ≤ 65535) (d : Nat) : ∀ (i : Nat) (n : Int), i + d = l.length → 0 ≤ n → n + 65535 * (d : Int) ≤ 4611686018427387904 →
    Ev (fun k => interpreterref02_Total.l0 k l n (i : Int)) (F (n + isum (l.drop i))) := by
  induction d with
  | zero =>
    intro i n hi h0 hb
    refine Ev.step (f := fun k => interpreterref02_Total.l1 k n) (fun k => ?_) ?_
    · simp only [interpreterref02_Total.l0]
      rw [if_neg (by omega)]
    · rw [List.drop_of_length_le (by omega)]
      simp only [isum, Int.add_zero]
      exact tot1_ev _ n h0 rfl (by omega)
  | succ d ih =>
    intro i n hi h0 hb
    have hlt : i < l.length := by omega
    have hxi := hx l[i] (List.getElem_mem hlt)
    have hrd : rd l (i : Int) = l[i] := by simp [rd, List.getD_eq_getElem?_getD, List.getElem?_eq_getElem hlt]
    have hi1 : wrap64 ((i : Int) + 1) = ((i + 1 : Nat) : Int) := by rw [wrap_id (by omega) (by omega)]; omega
    refine Ev.step (f := fun k => interpreterref02_Total.l0 k l (n + l[i]) ((i + 1 : Nat) : Int)) (fun k => ?_) ?_
    · simp only [interpreterref02_Total.l0]
      rw [if_pos (by omega), if_pos (by omega), hrd, wrap_id (x := n + l[i]) (by omega) (by omega), hi1]
    · have h := ih (i + 1) (n + l[i]) (by omega) (by omega) (by omega)
      rw [List.drop_eq_getElem_cons hlt]
      simp only [isum]
      rw [← Int.add_assoc]
      exact h
theorem Total_is (l : List Int) (hl : l.length ≤ 1073741824) (hx : ∀ x ∈ l, 0 ≤ x ∧ x ≤ 65535) : Ev (fun k => interpreterref02_Total.f k l) (F (isum l)) := by
  have := tot0_ev l hl hx l.length 0 0 (by omega) (by omega) (by omega)
  simpa [interpreterref02_Total.f] using this
theorem upd_ev (w : List Int) (x2 : ByteArray) (hw : w.length ≤ 1000000) (hx : ∀ x ∈ w, 0 ≤ x ∧ x ≤ 65535) (h2 : x2.data.toList.length ≤ 1000000) (d : Nat) : ∀ (i : Nat) (acc : List Int), i + d = w.length → acc.length ≤ i + 1 → (∀ x ∈ acc, 0 ≤ x ∧ x ≤ 65535) →
    Ev (fun k => interpreterref02_Update.l0 k x2 acc w (i : Int)) (65535 - F (isum acc + (65535 * (d : Int) - isum (w.drop i)) + ws false true x2.data.toList)) := by
  induction d with
  | zero =>
    intro i acc hi ha hacc
    refine Ev.step (f := fun k => (interpreterref02_Words.f k x2).bind fun t139 => (if acc.length + t139.length < 17592186044416 then ((interpreterref02_Total.f k (acc ++ t139)).bind fun t145 => (some (wrap64 (65535 - t145)))) else (none))) (fun k => ?_) ?_
    · simp only [interpreterref02_Update.l0]
      rw [if_neg (by omega)]
    · have hp := padl_len x2.data.toList
      have hwl := words_len (padl x2.data.toList)
      refine Ev.bind (Words_is x2 h2) (ev_pos (by omega) ?_)
      refine Ev.bind (Total_is _ (by rw [List.length_append]; omega) (fun x hx => ?_)) ?_
      · rcases List.mem_append.1 hx with hx | hx
        · exact hacc x hx
        · exact words_range _ x hx
      · have hF := F_range (isum (acc ++ words (padl x2.data.toList)))
        rw [wrap_id (by omega) (by omega), isum_append, isum_words _ (padl_even _), ws_pad, List.drop_of_length_le (by omega)]
        simp only [isum]
        exact ev_now (by simp)
  | succ d ih =>
    intro i acc hi ha hacc
    have hlt : i < w.length := by omega
    have hxi := hx w[i] (List.getElem_mem hlt)
    have hrd : rd w (i : Int) = w[i] := by simp [rd, List.getD_eq_getElem?_getD, List.getElem?_eq_getElem hlt]
    have hi1 : wrap64 ((i : Int) + 1) = ((i + 1 : Nat) : Int) := by rw [wrap_id (by omega) (by omega)]; omega
    refine Ev.step (f := fun k => interpreterref02_Update.l0 k x2 (acc ++ [65535 - w[i]]) w ((i + 1 : Nat) : Int)) (fun k => ?_) ?_
    · simp only [interpreterref02_Update.l0]
      rw [if_pos (by omega), if_pos (by omega), if_pos (by omega), hrd, wrap_id (x := 65535 - w[i]) (by omega) (by omega), hi1]
    · have h := ih (i + 1) (acc ++ [65535 - w[i]]) (by omega) (by rw [List.length_append]; simp only [List.length_cons, List.length_nil]; omega) (fun x hx => by
        rcases List.mem_append.1 hx with hx | hx
        · exact hacc x hx
        · have := List.mem_singleton.1 hx
          omega)
      rw [List.drop_eq_getElem_cons hlt]
      rw [isum_append] at h
      simp only [isum] at h ⊢
      rw [show isum acc + (65535 * ((d + 1 : Nat) : Int) - (w[i] + isum (w.drop (i + 1)))) = isum acc + (65535 - w[i] + 0) + (65535 * (d : Int) - isum (w.drop (i + 1))) by omega]
      exact h
theorem RefUpdate_is (n : Int) (old new : ByteArray) (h1 : old.data.toList.length ≤ 3000) (h2 : new.data.toList.length ≤ 3000) : Ev (fun k => interpreterref02_Update.f k n old new) (U n old.data.toList new.data.toList) := by
  have J : ∀ (m : Int), m = n % 65536 → Ev (fun k => interpreterref02_Update.j0 k m old new) (U n old.data.toList new.data.toList) := by
    intro m hm
    refine Ev.step (fun k => by rw [interpreterref02_Update.j0]) ?_
    have hp := padl_len old.data.toList
    have hwl := words_len (padl old.data.toList)
    have hb := ws_both (padl old.data.toList) (padl_even _)
    refine Ev.bind (Words_is old (by omega)) ?_
    rw [wrap_id (x := 65535 - m) (by omega) (by omega)]
    have := upd_ev (words (padl old.data.toList)) new (by omega) (words_range _) (by omega) (words (padl old.data.toList)).length 0 [65535 - m] (by omega) (by simp) (fun x hx => by
      have := List.mem_singleton.1 hx
      omega)
    rw [List.drop_zero, isum_words _ (padl_even _), hwl] at this
    simp only [isum] at this
    unfold U
    rw [show 65535 - n % 65536 + ws true true (padl old.data.toList) = 65535 - m + 0 + (65535 * (((padl old.data.toList).length : Int) / 2) - ws false true (padl old.data.toList)) by omega]
    exact this
  unfold interpreterref02_Update.f
  have ht : Int.tmod n 65536 = n % 65536 ∨ Int.tmod n 65536 = n % 65536 - 65536 ∧ n % 65536 ≠ 0 := by
    rw [Int.tmod_eq_emod]
    by_cases c : 0 ≤ n ∨ (65536 : Int) ∣ n
    · rw [if_pos c]; omega
    · rw [if_neg c]
      refine .inr ⟨rfl, fun h => c (.inr (Int.dvd_of_emod_eq_zero h))⟩
  by_cases c : Int.tmod n 65536 < 0
  · exact ev_pos c (J _ (by rw [wrap_id (by omega) (by omega)]; omega))
  · exact ev_neg c (J _ (by omega))
end Go.Proofs.Ytjekkpnmpcpgaaa.EvSumUpdates
