/- Lists of records in rows, as arguments and answers of functions. -/
import Derived.Test.YtnfbgfmdjaodgaaEngX
set_option linter.unusedVariables false
set_option linter.unusedSimpArgs false
namespace Go.Proofs.Ytnfbgfmdjaodgaa.Eng
open Go.RowKit

def recs {α : Type} (mk : α → List AV) : List α → List AV
  | [] => []
  | x :: l => mk x ++ recs mk l
section
variable {α : Type} {mk : α → List AV} {n : Nat}
theorem recs_append : ∀ (a b : List α), recs mk (a ++ b) = recs mk a ++ recs mk b
  | [], b => rfl
  | x :: a, b => by simp only [List.cons_append, recs, recs_append a b, List.append_assoc]
theorem recs_one (x : α) : recs mk [x] = mk x := by simp [recs]
theorem recs_map {f : α → AV} : ∀ (l : List α), recs (fun x => [f x]) l = l.map f
  | [] => rfl
  | x :: l => by simp [recs, recs_map l]
variable (hn : ∀ x, (mk x).length = n)
include hn
theorem recs_length : ∀ (l : List α), (recs mk l).length = l.length * n
  | [] => by simp [recs]
  | x :: l => by simp only [recs, List.length_append, hn, recs_length l, List.length_cons, Nat.succ_mul]; omega
theorem recs_drop : ∀ (i : Nat) (l : List α), (recs mk l).drop (i * n) = recs mk (l.drop i)
  | 0, l => by simp
  | i + 1, [] => by simp [recs]
  | i + 1, x :: l => by
    rw [recs, Nat.succ_mul, Nat.add_comm, List.drop_append, hn, List.drop_eq_nil_of_le (by rw [hn]; omega), List.nil_append]
    have : n + i * n - n = i * n := by omega
    rw [this, recs_drop i l, List.drop_succ_cons]
theorem recs_take : ∀ (i : Nat) (l : List α), (recs mk l).take (i * n) = recs mk (l.take i)
  | 0, l => by simp [recs]
  | i + 1, [] => by simp [recs]
  | i + 1, x :: l => by
    rw [recs, Nat.succ_mul, Nat.add_comm, List.take_append, hn, List.take_of_length_le (by rw [hn]; omega)]
    have : n + i * n - n = i * n := by omega
    rw [this, recs_take i l, List.take_succ_cons, recs]
theorem recs_at {l : List α} {i : Nat} {x : α} (h : l[i]? = some x) : ((recs mk l).drop (i * n)).take n = mk x := by
  have hi := (List.getElem?_eq_some_iff.1 h)
  obtain ⟨hi, hx⟩ := hi
  rw [recs_drop hn, List.drop_eq_getElem_cons hi, hx, recs, List.take_append, List.take_of_length_le (by rw [hn]; omega), hn, Nat.sub_self]
  simp
theorem recs_in {c : List AV} {off len : Nat} {l : List α} (hc : (c.drop off).take (len * n) = recs mk l) (hl : l.length = len) {i : Nat} {x : α} (h : l[i]? = some x) : (c.drop (off + i * n)).take n = mk x := by
  have hi := (List.getElem?_eq_some_iff.1 h).1
  rw [← recs_at hn h, ← hc, List.drop_take, List.drop_drop, List.take_take]
  congr 1
  have : i * n + n ≤ len * n := by rw [← Nat.succ_mul]; exact Nat.mul_le_mul_right _ (by omega)
  omega
omit hn in
theorem setAll_append_left : ∀ (a b xs : List AV) (o : Nat), o + xs.length ≤ a.length → setAll (a ++ b) o xs = setAll a o xs ++ b
  | a, b, [], o, h => rfl
  | a, b, x :: xs, o, h => by
    simp only [List.length_cons] at h
    rw [setAll, setAll, List.set_append_left _ _ (by omega), setAll_append_left _ _ _ _ (by rw [List.length_set]; omega)]
omit hn in
theorem setAll_append_right : ∀ (a b xs : List AV) (o : Nat), setAll (a ++ b) (a.length + o) xs = a ++ setAll b o xs
  | a, b, [], o => rfl
  | a, b, x :: xs, o => by
    rw [setAll, setAll, List.set_append_right _ _ (by omega)]
    have : a.length + o - a.length = o := by omega
    rw [this, show a.length + o + 1 = a.length + (o + 1) by omega, setAll_append_right]
omit hn in
theorem setAll_full : ∀ (c xs : List AV), xs.length = c.length → setAll c 0 xs = xs := by
  intro c xs h
  apply List.ext_getElem?
  intro j
  rw [setAll_get]
  by_cases hj : j < xs.length
  · rw [if_pos (by omega)]; simp
  · rw [if_neg (by omega), List.getElem?_eq_none (by omega), List.getElem?_eq_none (by omega)]
theorem recs_set : ∀ {l : List α} {i : Nat} (x : α), i < l.length → setAll (recs mk l) (i * n) (mk x) = recs mk (l.set i x)
  | [], i, x, h => by simp at h
  | y :: l, 0, x, h => by
    rw [recs, Nat.zero_mul, setAll_append_left _ _ _ _ (by rw [hn, hn]; omega), setAll_full _ _ (by rw [hn, hn]), List.set_cons_zero, recs]
  | y :: l, i + 1, x, h => by
    rw [recs, Nat.succ_mul, Nat.add_comm]
    have := setAll_append_right (mk y) (recs mk l) (mk x) (i * n)
    rw [hn] at this
    rw [this, recs_set x (by simpa using h), List.set_cons_succ, recs]
theorem recs_inj (hi : ∀ x y, mk x = mk y → x = y) : ∀ {a b : List α}, a.length = b.length → recs mk a = recs mk b → a = b
  | [], [], _, _ => rfl
  | [], y :: b, h, _ => by simp at h
  | x :: a, [], h, _ => by simp at h
  | x :: a, y :: b, hl, h => by
    have h1 := congrArg (List.take n) h
    have h2 := congrArg (List.drop n) h
    simp only [recs, List.take_append, List.drop_append, hn, Nat.sub_self, List.take_zero, List.append_nil, List.drop_zero, List.take_of_length_le (Nat.le_of_eq (hn x)), List.take_of_length_le (Nat.le_of_eq (hn y)), List.drop_eq_nil_of_le (Nat.le_of_eq (hn x)), List.drop_eq_nil_of_le (Nat.le_of_eq (hn y)), List.nil_append] at h1 h2
    rw [hi _ _ h1, recs_inj hi (by simpa using hl) h2]
end
theorem recs_unders {α : Type} {mk : α → List AV} (h : ∀ x, AV.unders 0 (mk x) = true) : ∀ (l : List α), AV.unders 0 (recs mk l) = true
  | [] => rfl
  | x :: l => by rw [recs, unders_append, h, recs_unders h l]; rfl
theorem recs_one_all {α : Type} {mk : α → List AV} (h : ∀ x, (mk x).all AV.one = true) : ∀ (l : List α), (recs mk l).all AV.one = true
  | [] => rfl
  | x :: l => by rw [recs, List.all_append, h, recs_one_all h l]; rfl

structure LD where
  n : Nat
  len : Nat
  cells : List AV
def LIs (h : Hp) (a : AV) (d : LD) : Prop := (a = .sn ∧ d.len = 0 ∧ d.cells = []) ∨ ∃ (id off : Nat) (cap : Option Nat) (c : List AV) (wr : Bool), a = .sl id off d.len d.n cap ∧ hcells h id = some (c, wr) ∧ (c.drop off).take (d.len * d.n) = d.cells ∧ d.len ≤ cap.getD d.len ∧ off + d.len * d.n ≤ c.length
theorem LIs.det {h : Hp} {a : AV} {d e : LD} (hn : d.n = e.n) (h1 : LIs h a d) (h2 : LIs h a e) : d = e := by
  obtain ⟨n, len, cells⟩ := d
  obtain ⟨n', len', cells'⟩ := e
  simp only at hn
  subst hn
  rcases h1 with ⟨rfl, h1, h1'⟩ | ⟨id, off, cap, c, wr, rfl, k1, k2, _, _⟩ <;> rcases h2 with ⟨e, h2, h2'⟩ | ⟨id', off', cap', c', wr', e, m1, m2, _, _⟩
  · simp only at h1 h1' h2 h2'
    rw [h1, h1', h2, h2']
  · simp at e
  · simp at e
  · simp only [AV.sl.injEq, and_true, true_and] at e
    obtain ⟨rfl, rfl, rfl, rfl⟩ := e
    rw [k1] at m1
    simp only [Option.some.injEq, Prod.mk.injEq] at m1
    obtain ⟨rfl, rfl⟩ := m1
    simp only at k2 m2
    rw [← k2, ← m2]
def tL {α : Type} (n : Nat) (mk : α → List AV) (a : AV) (h : Hp) (K : List α → Prop) : Prop := match a with
  | .sn => K []
  | .sl id off len esz cap => br (decide (esz = n)) (optQ (hcells h id) fun q => Holds (len ≤ cap.getD len) ∧ Holds (off + len * n ≤ q.1.length) ∧ ∃ l : List α, Holds ((q.1.drop off).take (len * n) = recs mk l) ∧ Holds (l.length = len) ∧ K l) False
  | _ => False
def ldOf {α : Type} (n : Nat) (mk : α → List AV) (l : List α) : LD := ⟨n, l.length, recs mk l⟩
theorem tL_spec {α : Type} {n : Nat} {mk : α → List AV} {a : AV} {h : Hp} {K : List α → Prop} (hk : tL n mk a h K) : ∃ l, LIs h a (ldOf n mk l) ∧ K l := by
  unfold tL at hk
  split at hk
  · exact ⟨[], .inl ⟨rfl, rfl, rfl⟩, hk⟩
  · rename_i id off len esz cap
    obtain ⟨he, hk⟩ := br_false_right hk
    obtain rfl : esz = n := by simpa using he
    obtain ⟨⟨c, wr⟩, hc, h0, h00, l, h1, h2, h3⟩ := optQ_spec hk
    have h2 := h2.out
    subst h2
    exact ⟨l, .inr ⟨id, off, cap, c, wr, rfl, hc, h1.out, h0.out, h00.out⟩, h3⟩
  · exact hk.elim
theorem ldOf_inj {α : Type} {n : Nat} {mk : α → List AV} (hn : ∀ x, (mk x).length = n) (hi : ∀ x y, mk x = mk y → x = y) {l m : List α} (h : ldOf n mk l = ldOf n mk m) : l = m := by
  simp only [ldOf, LD.mk.injEq, true_and] at h
  exact recs_inj hn hi h.1 h.2

def sh (k : Nat) : Nat → Option Nat := fun i => some (k + i)
mutual
theorem reA_comp (f g : Nat → Option Nat) : ∀ (a : AV), reA f (reA g a) = reA (fun i => (g i).bind f) a
  | .bad => rfl
  | .bo _ => rfl
  | .i _ _ => rfl
  | .s _ => rfl
  | .pn => rfl
  | .p id off => by
    simp only [reA]
    cases g id <;> simp [reA]
  | .sn => rfl
  | .sl id off len esz cap => by
    simp only [reA]
    cases g id <;> simp [reA]
  | .mn => rfl
  | .m id => by
    simp only [reA]
    cases g id <;> simp [reA]
  | .nf => rfl
  | .ni => rfl
  | .ic t v => by simp only [reA, reA_comp f g v]
  | .fn _ c => by simp only [reA, reAs_comp f g c]
  | .ag c => by simp only [reA, reAs_comp f g c]
  | .tu c => by simp only [reA, reAs_comp f g c]
theorem reAs_comp (f g : Nat → Option Nat) : ∀ (a : List AV), reAs f (reAs g a) = reAs (fun i => (g i).bind f) a
  | [] => rfl
  | x :: xs => by simp only [reAs, reA_comp f g x, reAs_comp f g xs]
end
theorem back_sh (J : List Nat) (n : Nat) (a : AV) : reA (backN J n) (reA (sh J.length) a) = reA (sh n) a := by
  rw [reA_comp]
  congr 1
  funext i
  simp only [sh, Option.bind_some, backN]
  rw [if_neg (by omega)]
  congr 1
  omega
def fl (a : AV) : AV := if a.under 0 = true then a else .bad
theorem fl_under (a : AV) : (fl a).under 0 = true := by
  unfold fl
  split
  · assumption
  · rfl
theorem fl_flat {a : AV} (h : a.under 0 = true) : fl a = a := if_pos h
theorem VRel.fl {ρ : List Loc} {a : AV} {v : Value} (h : VRel ρ a v) : VRel ρ (Eng.fl a) v := by
  unfold Eng.fl
  split
  · exact h
  · trivial
def flB : Blk → Blk
  | .cells c wr => .cells (c.map fl) wr
  | B => B
theorem flB_wr (B : Blk) : (flB B).wrB = B.wrB := by cases B <;> rfl
theorem flB_solid (B : Blk) : (flB B).solid = B.solid := by
  cases B with
  | cells c wr => cases c <;> simp [flB, Blk.solid]
  | _ => rfl
theorem BRel.fl {ρ : List Loc} {w : World} {l : Loc} {B : Blk} (hb : BRel ρ w l B) : BRel ρ w l (flB B) := by
  cases B with
  | cells c wr =>
    refine ⟨by rw [List.length_map]; exact hb.1, fun j a hj => ?_, hb.2.2⟩
    rw [List.getElem?_map, Option.map_eq_some_iff] at hj
    obtain ⟨a', h1, rfl⟩ := hj
    obtain ⟨v, hv, hr⟩ := hb.2.1 j a' h1
    exact ⟨v, hv, hr.fl⟩
  | _ => exact hb
theorem HRel.fl {own : Nat → Prop} {ρ : List Loc} {h : Hp} {w : World} (H : HRel own ρ h w) : HRel own ρ (h.map flB) w := by
  have gt : ∀ {id : Nat} {B' : Blk}, (h.map flB)[id]? = some B' → ∃ B, h[id]? = some B ∧ B' = flB B := by
    intro id B' e
    rw [List.getElem?_map, Option.map_eq_some_iff] at e
    obtain ⟨B, h1, rfl⟩ := e
    exact ⟨B, h1, rfl⟩
  refine ⟨H.glob, by rw [List.length_map]; exact H.len, H.fresh, fun id B l h1 h2 => ?_, fun id B l h1 h2 h3 => ?_, fun id B l h1 h2 h3 => ?_, fun i j Bi Bj li lj h1 h2 h3 h4 h5 h6 h7 => ?_⟩
  · obtain ⟨B, hB, rfl⟩ := gt h1
    exact (H.blk id B l hB h2).fl
  · obtain ⟨B, hB, rfl⟩ := gt h1
    rw [flB_wr] at h3
    exact H.ours id B l hB h2 h3
  · obtain ⟨B, hB, rfl⟩ := gt h1
    rw [flB_solid] at h3
    exact H.lt id B l hB h2 h3
  · obtain ⟨B, hB, rfl⟩ := gt h1
    obtain ⟨B', hB', rfl⟩ := gt h2
    rw [flB_wr] at h6
    rw [flB_solid] at h7
    exact H.sep i j B B' li lj hB hB' h3 h4 h5 h6 h7
theorem unders_fl : ∀ (c : List AV), AV.unders 0 (c.map fl) = true
  | [] => rfl
  | x :: c => by
    simp only [List.map_cons, AV.unders, unders_fl c, fl_under, Bool.and_true]
theorem map_fl : ∀ {c : List AV}, AV.unders 0 c = true → c.map fl = c
  | [], _ => rfl
  | x :: c, h => by
    have h' : AV.under 0 x = true ∧ AV.unders 0 c = true := by simpa [AV.unders] using h
    rw [List.map_cons, fl_flat h'.1, map_fl h'.2]
def newOk (new : Hp) : Bool := new.all fun B => B.wrB && match B with | .cells c _ => AV.unders 0 c | _ => false
section
variable {P : Program} {T : TEnv} {W : Nat → Option Road} {Γ : Env}
theorem SoundF.laidA (hT : Follows T Γ) (hΓ : Sound P Γ) (hm : P.follows .mixedOrders = true) {f : FuncId} {fn : Func} (hf : fnOk1 P W f fn) {C : List AV → Hp → Option (AV × Hp)}
    (hC : ∀ args h r h', C args h = some (r, h') → ∃ (J : List Nat) (LA : Nat → Option Head) (args' : List AV) (r0 : AV) (new : Hp), (∀ id ∈ J, id < h.length) ∧ r = reA (sh h.length) r0 ∧
      h' = h ++ new ∧ newOk new = true ∧ (∀ ρ vs, ρ.length = h.length → VRels ρ args vs → VRels (pickR ρ J) args' vs) ∧
      wpFn P T W LA J.length fn args' ((pickH h J).map flB) fun v h1 => ∃ h0, h0.length = J.length ∧ Wk J.length ⟨[v], h1⟩ ⟨[reA (sh J.length) r0], h0 ++ new⟩) : SoundF P f C := by
  intro args h r h' he own ρ w vs H ha
  obtain ⟨J, LA, args', r0, new, hJ, rfl, rfl, hnew, hargs, hw⟩ := hC args h r h' he
  refine (wpFn_calls hT hΓ hm hf hw (H.pick hJ).fl (hargs ρ vs H.len ha)).mono fun e w' hp => ?_
  obtain ⟨ρ', z, r', h1, ⟨h0, hl0, hk⟩, rfl, k1, k2, k3, k4⟩ := hp
  obtain ⟨ρ2, m1, ⟨z', _, hz, m2, hn⟩, m3⟩ := hk.run _ ρ' w' [z] k1 ⟨z, [], rfl, k2, rfl⟩
  cases hz
  obtain ⟨σ, q1, q2, q3⟩ := laid_core H hJ hnew hl0 m1 m2 (k3.trans m3) k4
  rw [back_sh] at q2
  exact ⟨σ, z, rfl, q1, q2, q3⟩
def Sgen {X : Type} (mk : X → List AV → List AV) (ls : X → List LD) (ok : X → Prop) (res : X → AV × Hp) : Rel := fun args h r h' =>
  ∃ (x : X) (as : List AV), args = mk x as ∧ as.length = (ls x).length ∧ (∀ (i : Nat) a d, as[i]? = some a → (ls x)[i]? = some d → LIs h a d) ∧ ok x ∧ r = reA (sh h.length) (res x).1 ∧ h' = h ++ (res x).2
structure Form {X : Type} (mk : X → List AV → List AV) (ls : X → List LD) : Prop where
  inj : ∀ x y as bs, as.length = (ls x).length → bs.length = (ls y).length → mk x as = mk y bs → as = bs ∧ (ls x).map LD.n = (ls y).map LD.n ∧ (ls x = ls y → x = y)
theorem Sgen.det {X : Type} {mk : X → List AV → List AV} {ls : X → List LD} {ok : X → Prop} {res : X → AV × Hp} (hF : Form mk ls) : Det (Sgen mk ls ok res) := by
  rintro args h r h' r2 h2 ⟨x, as, rfl, l1, k1, _, rfl, rfl⟩ ⟨y, bs, e, l2, k2, _, rfl, rfl⟩
  obtain ⟨rfl, hn, hxy⟩ := hF.inj x y as bs l1 l2 e
  have : ls x = ls y := by
    apply List.ext_getElem?
    intro i
    by_cases hi : i < (ls x).length
    · have hi' : i < (ls y).length := by omega
      have ha : i < as.length := by omega
      rw [List.getElem?_eq_getElem hi, List.getElem?_eq_getElem hi']
      congr 1
      refine LIs.det ?_ (k1 i _ _ (List.getElem?_eq_getElem ha) (List.getElem?_eq_getElem hi)) (k2 i _ _ (List.getElem?_eq_getElem ha) (List.getElem?_eq_getElem hi'))
      have := congrArg (fun l => l[i]?) hn
      simpa [List.getElem?_eq_getElem hi, List.getElem?_eq_getElem hi'] using this
    · rw [List.getElem?_eq_none (by omega), List.getElem?_eq_none (by omega)]
  obtain rfl := hxy this
  exact ⟨rfl, rfl⟩
abbrev Out (X : Type) := X → (AV → Hp → Prop) → Prop
def t0 {X : Type} (un : List AV → Option X) (ok : X → Prop) (out : Out X) (args : List AV) (h : Hp) (K : AV → Hp → Prop) : Prop :=
  optQ (un args) fun x => Holds (ok x) ∧ lenK h fun k => out x fun r new => K (reA (sh k) r) (h ++ new)
def t1 {Y α : Type} (n : Nat) (mk : α → List AV) (un : List AV → Option (Y × AV)) (ok : Y × List α → Prop) (out : Out (Y × List α)) (args : List AV) (h : Hp) (K : AV → Hp → Prop) : Prop :=
  optQ (un args) fun q => match q with
    | (y, a) => tL n mk a h fun l => Holds (ok (y, l)) ∧ lenK h fun k => out (y, l) fun r new => K (reA (sh k) r) (h ++ new)
def t2 {Y α β : Type} (n m : Nat) (mk : α → List AV) (mk' : β → List AV) (un : List AV → Option (Y × AV × AV)) (ok : Y × List α × List β → Prop) (out : Out (Y × List α × List β)) (args : List AV) (h : Hp) (K : AV → Hp → Prop) : Prop :=
  optQ (un args) fun q => match q with
    | (y, a, b) => tL n mk a h fun l => tL m mk' b h fun l' => Holds (ok (y, l, l')) ∧ lenK h fun k => out (y, l, l') fun r new => K (reA (sh k) r) (h ++ new)
def S0 {X : Type} (mkA : X → List AV) (ok : X → Prop) (res : X → AV × Hp) : Rel := Sgen (fun x _ => mkA x) (fun _ => []) ok res
def S1 {Y α : Type} (n : Nat) (mk : α → List AV) (mkA : Y → AV → List AV) (ok : Y × List α → Prop) (res : Y × List α → AV × Hp) : Rel := Sgen (fun (x : Y × List α) as => mkA x.1 (as.getD 0 .bad)) (fun x => [ldOf n mk x.2]) ok res
def S2 {Y α β : Type} (n m : Nat) (mk : α → List AV) (mk' : β → List AV) (mkA : Y → AV → AV → List AV) (ok : Y × List α × List β → Prop) (res : Y × List α × List β → AV × Hp) : Rel :=
  Sgen (fun (x : Y × List α × List β) as => mkA x.1 (as.getD 0 .bad) (as.getD 1 .bad)) (fun x => [ldOf n mk x.2.1, ldOf m mk' x.2.2]) ok res
theorem len_one {as : List AV} (h : as.length = 1) : ∃ a, as = [a] := List.length_eq_one_iff.1 h
theorem len_two {as : List AV} (h : as.length = 2) : ∃ a b, as = [a, b] := by
  match as, h with
  | [a, b], _ => exact ⟨a, b, rfl⟩
theorem form0 {X : Type} {mkA : X → List AV} (hi : ∀ x y, mkA x = mkA y → x = y) : Form (fun x (_ : List AV) => mkA x) fun _ => [] := ⟨fun x y as bs l1 l2 e => by
  simp only [List.length_nil, List.length_eq_zero_iff] at l1 l2
  subst l1 l2
  exact ⟨rfl, rfl, fun _ => hi _ _ e⟩⟩
theorem form1 {Y α : Type} {n : Nat} {mk : α → List AV} {mkA : Y → AV → List AV} (hn : ∀ x, (mk x).length = n) (hmk : ∀ x y, mk x = mk y → x = y) (hi : ∀ x y a b, mkA x a = mkA y b → x = y ∧ a = b) :
    Form (fun (x : Y × List α) as => mkA x.1 (as.getD 0 .bad)) fun x => [ldOf n mk x.2] := ⟨fun x y as bs l1 l2 e => by
  obtain ⟨a, rfl⟩ := len_one l1
  obtain ⟨b, rfl⟩ := len_one l2
  obtain ⟨x, l⟩ := x
  obtain ⟨y, m⟩ := y
  obtain ⟨h1, h2⟩ := hi _ _ _ _ e
  simp only [List.getD_cons_zero] at h1 h2
  subst h1 h2
  refine ⟨rfl, rfl, fun h => ?_⟩
  simp only [List.cons.injEq, and_true] at h
  rw [ldOf_inj hn hmk h]⟩
theorem form2 {Y α β : Type} {n m : Nat} {mk : α → List AV} {mk' : β → List AV} {mkA : Y → AV → AV → List AV} (hn : ∀ x, (mk x).length = n) (hm : ∀ x, (mk' x).length = m) (hmk : ∀ x y, mk x = mk y → x = y) (hmk' : ∀ x y, mk' x = mk' y → x = y)
    (hi : ∀ x y a b a' b', mkA x a a' = mkA y b b' → x = y ∧ a = b ∧ a' = b') : Form (fun (x : Y × List α × List β) as => mkA x.1 (as.getD 0 .bad) (as.getD 1 .bad)) fun x => [ldOf n mk x.2.1, ldOf m mk' x.2.2] := ⟨fun x y as bs l1 l2 e => by
  obtain ⟨a, a', rfl⟩ := len_two l1
  obtain ⟨b, b', rfl⟩ := len_two l2
  obtain ⟨x, l, l'⟩ := x
  obtain ⟨y, k, k'⟩ := y
  obtain ⟨h1, h2, h3⟩ := hi _ _ _ _ _ _ e
  simp only [List.getD_cons_zero, List.getD_cons_succ] at h1 h2 h3
  subst h1 h2 h3
  refine ⟨rfl, rfl, fun h => ?_⟩
  simp only [List.cons.injEq, and_true] at h
  rw [ldOf_inj hn hmk h.1, ldOf_inj hm hmk' h.2]⟩
theorem f0 {X : Type} {mkA : X → List AV} {un : List AV → Option X} {ok : X → Prop} {out : Out X} {res : X → AV × Hp} (hi : ∀ x y, mkA x = mkA y → x = y) (hun : ∀ args x, un args = some x → args = mkA x) (hout : ∀ x K, out x K → K (res x).1 (res x).2) :
    FollowsF (t0 un ok out) (Cof (S0 mkA ok res)) := by
  refine follows_of (Sgen.det (form0 hi)) fun args h K hk => ?_
  obtain ⟨x, hx, h1, h2⟩ := optQ_spec hk
  rw [lenK_eq] at h2
  obtain rfl := hun _ _ hx
  exact ⟨_, _, ⟨x, [], rfl, rfl, fun i a d e => by simp at e, h1.out, rfl, rfl⟩, hout x (fun r new => K (reA (sh h.length) r) (h ++ new)) h2⟩
theorem f1 {Y α : Type} {n : Nat} {mk : α → List AV} {mkA : Y → AV → List AV} {un : List AV → Option (Y × AV)} {ok : Y × List α → Prop} {out : Out (Y × List α)} {res : Y × List α → AV × Hp} (hn : ∀ x, (mk x).length = n) (hmk : ∀ x y, mk x = mk y → x = y)
    (hi : ∀ x y a b, mkA x a = mkA y b → x = y ∧ a = b) (hun : ∀ args x, un args = some x → args = mkA x.1 x.2) (hout : ∀ x K, out x K → K (res x).1 (res x).2) : FollowsF (t1 n mk un ok out) (Cof (S1 n mk mkA ok res)) := by
  refine follows_of (Sgen.det (form1 hn hmk hi)) fun args h K hk => ?_
  obtain ⟨⟨y, a⟩, hx, h1⟩ := optQ_spec hk
  obtain rfl := hun _ _ hx
  obtain ⟨l, hl, h2, h3⟩ := tL_spec h1
  rw [lenK_eq] at h3
  refine ⟨_, _, ⟨(y, l), [a], rfl, rfl, fun i b d e1 e2 => ?_, h2.out, rfl, rfl⟩, hout (y, l) (fun r new => K (reA (sh h.length) r) (h ++ new)) h3⟩
  cases i with
  | zero => simp at e1 e2; subst e1 e2; exact hl
  | succ i => simp at e1
theorem f2 {Y α β : Type} {n m : Nat} {mk : α → List AV} {mk' : β → List AV} {mkA : Y → AV → AV → List AV} {un : List AV → Option (Y × AV × AV)} {ok : Y × List α × List β → Prop} {out : Out (Y × List α × List β)} {res : Y × List α × List β → AV × Hp}
    (hn : ∀ x, (mk x).length = n) (hm : ∀ x, (mk' x).length = m) (hmk : ∀ x y, mk x = mk y → x = y) (hmk' : ∀ x y, mk' x = mk' y → x = y)
    (hi : ∀ x y a b a' b', mkA x a a' = mkA y b b' → x = y ∧ a = b ∧ a' = b') (hun : ∀ args x, un args = some x → args = mkA x.1 x.2.1 x.2.2) (hout : ∀ x K, out x K → K (res x).1 (res x).2) : FollowsF (t2 n m mk mk' un ok out) (Cof (S2 n m mk mk' mkA ok res)) := by
  refine follows_of (Sgen.det (form2 hn hm hmk hmk' hi)) fun args h K hk => ?_
  obtain ⟨⟨y, a, a'⟩, hx, h1⟩ := optQ_spec hk
  obtain rfl := hun _ _ hx
  obtain ⟨l, hl, h1⟩ := tL_spec h1
  obtain ⟨l', hl', h2, h3⟩ := tL_spec h1
  rw [lenK_eq] at h3
  refine ⟨_, _, ⟨(y, l, l'), [a, a'], rfl, rfl, fun i b d e1 e2 => ?_, h2.out, rfl, rfl⟩, hout (y, l, l') (fun r new => K (reA (sh h.length) r) (h ++ new)) h3⟩
  match i with
  | 0 => simp at e1 e2; subst e1 e2; exact hl
  | 1 => simp at e1 e2; subst e1 e2; exact hl'
  | i + 2 => simp at e1
def Done (k : Nat) (res : AV × Hp) (R : AV → Hp → Prop) : Prop := ∀ v h1 h0, h0.length = k → Wk k ⟨[v], h1⟩ ⟨[reA (sh k) res.1], h0 ++ res.2⟩ → R v h1
theorem Done.intro {k : Nat} {res : AV × Hp} : Done k res fun v h1 => ∃ h0, h0.length = k ∧ Wk k ⟨[v], h1⟩ ⟨[reA (sh k) res.1], h0 ++ res.2⟩ := fun v h1 h0 hl hk => ⟨h0, hl, hk⟩
theorem s0 (hT : Follows T Γ) (hΓ : Sound P Γ) (hmo : P.follows .mixedOrders = true) {f : FuncId} {fn : Func} (hf : fnOk1 P W f fn) {X : Type} {mkA : X → List AV} {ok : X → Prop} {res : X → AV × Hp} (hu : ∀ x, AV.unders 0 (mkA x) = true) (hnew : ∀ x, newOk (res x).2 = true) (LA : X → Nat → Option Head)
    (hrun : ∀ x, ok x → ∀ R, Done 0 (res x) R → Holds (wpFn P T W (LA x) 0 fn (mkA x) [] R)) : SoundF P f (Cof (S0 mkA ok res)) := by
  refine SoundF.laidA hT hΓ hmo hf fun args h r h' hc => ?_
  obtain ⟨x, as, rfl, _, _, hok, rfl, rfl⟩ := Cof_spec hc
  refine ⟨[], LA x, mkA x, _, _, by simp, rfl, rfl, hnew x, fun ρ vs hl hr => ?_, (hrun x hok _ Done.intro).out⟩
  have := hr.ren []
  rwa [rens_flat _ (hu x)] at this
theorem lock_pick {h : Hp} {id : Nat} {c : List AV} {wr : Bool} {J : List Nat} (hc : hcells h id = some (c, wr)) : renB J ((h[id]?).getD .dead) = .cells (rens J c) false := by
  rw [hcells_some hc]; rfl
theorem rens_take (J : List Nat) (n : Nat) (c : List AV) : (rens J c).take n = rens J (c.take n) := by rw [rens_eq_map, rens_eq_map, List.map_take]
theorem rens_drop (J : List Nat) (n : Nat) (c : List AV) : (rens J c).drop n = rens J (c.drop n) := by rw [rens_eq_map, rens_eq_map, List.map_drop]
theorem window {J : List Nat} {c cs : List AV} {off n : Nat} (h : (c.drop off).take n = cs) (hu : AV.unders 0 cs = true) : (((rens J c).map fl).drop off).take n = cs := by
  rw [← List.map_drop, ← List.map_take, rens_drop, rens_take, h, rens_flat _ hu, map_fl hu]
theorem sl_pick {ρ : List Loc} {J : List Nat} {id k off len n : Nat} {cap : Option Nat} {v : Value} (hk : J[k]? = some id) (hid : id < ρ.length) (h : VRel ρ (.sl id off len n cap) v) : VRel (pickR ρ J) (.sl k off len n cap) v := by
  obtain ⟨l, a, h1, h2⟩ := h
  refine ⟨l, a, ?_, h2⟩
  rw [pickR, List.getElem?_map, hk]
  simp [locOf, h1]
theorem sn_pick {ρ ρ' : List Loc} {v : Value} (h : VRel ρ .sn v) : VRel ρ' .sn v := h
def Plain1 {Y : Type} (mkA : Y → AV → List AV) : Prop := ∀ (y : Y) (a a' : AV) (ρ ρ' : List Loc) (vs : List Value), (∀ v, VRel ρ a v → VRel ρ' a' v) → VRels ρ (mkA y a) vs → VRels ρ' (mkA y a') vs
def Plain2 {Y : Type} (mkA : Y → AV → AV → List AV) : Prop := ∀ (y : Y) (a a' b b' : AV) (ρ ρ' : List Loc) (vs : List Value), (∀ v, VRel ρ a v → VRel ρ' a' v) → (∀ v, VRel ρ b v → VRel ρ' b' v) → VRels ρ (mkA y a b) vs → VRels ρ' (mkA y a' b') vs
theorem flat_any {a : AV} (hu : a.under 0 = true) {ρ ρ' : List Loc} {v : Value} (h : VRel ρ a v) : VRel ρ' a v := by
  have h0 : VRel [] a v := VRel.less (ρ := []) (σ := ρ) (by simpa using hu) (by simpa using h)
  have := h0.more (ρ := []) ρ'
  simpa using this
theorem vrels_cons_iff {ρ ρ' : List Loc} {a a' : AV} {as as' : List AV} (h1 : ∀ v, VRel ρ a v → VRel ρ' a' v) (h2 : ∀ vs, VRels ρ as vs → VRels ρ' as' vs) {vs : List Value} (h : VRels ρ (a :: as) vs) : VRels ρ' (a' :: as') vs := by
  obtain ⟨v, vs', rfl, k1, k2⟩ := h
  exact ⟨v, vs', rfl, h1 _ k1, h2 _ k2⟩
theorem vrels_nil {ρ ρ' : List Loc} {vs : List Value} (h : VRels ρ [] vs) : VRels ρ' [] vs := h
theorem s1 (hT : Follows T Γ) (hΓ : Sound P Γ) (hmo : P.follows .mixedOrders = true) {f : FuncId} {fn : Func} (hf : fnOk1 P W f fn) {Y α : Type} {n : Nat} {mk : α → List AV} {mkA : Y → AV → List AV} {ok : Y × List α → Prop} {res : Y × List α → AV × Hp}
    (hp : Plain1 mkA) (hu : ∀ x, AV.unders 0 (mk x) = true) (hnew : ∀ x, newOk (res x).2 = true)
    (hnil : ∀ y, ok (y, []) → ∃ LA, ∀ R, Done 0 (res (y, [])) R → Holds (wpFn P T W LA 0 fn (mkA y .sn) [] R))
    (hrow : ∀ y l off cap c, ok (y, l) → (c.drop off).take (l.length * n) = recs mk l → l.length ≤ cap.getD l.length → off + l.length * n ≤ c.length → AV.unders 0 c = true → ∃ LA, ∀ R, Done 1 (res (y, l)) R → Holds (wpFn P T W LA 1 fn (mkA y (.sl 0 off l.length n cap)) [.cells c false] R)) : SoundF P f (Cof (S1 n mk mkA ok res)) := by
  refine SoundF.laidA hT hΓ hmo hf fun args h r h' hc => ?_
  obtain ⟨⟨y, l⟩, as, rfl, hl, hk, hok, rfl, rfl⟩ := Cof_spec hc
  obtain ⟨a, rfl⟩ := len_one hl
  simp only [List.getD_cons_zero]
  rcases hk 0 a _ rfl rfl with ⟨rfl, h1, h2⟩ | ⟨id, off, cap, c, wr, rfl, h1, h2, h3, h4⟩
  · simp only [ldOf, List.length_eq_zero_iff] at h1
    subst h1
    obtain ⟨LA, hnil⟩ := hnil y hok
    exact ⟨[], LA, mkA y .sn, _, _, by simp, rfl, rfl, hnew _, fun ρ vs _ hr => hp y .sn .sn ρ _ vs (fun v hv => hv) hr, (hnil _ Done.intro).out⟩
  · simp only [ldOf] at h1 h2 h3 h4 ⊢
    have hid := (List.getElem?_eq_some_iff.1 (hcells_some h1)).1
    obtain ⟨LA, hrow⟩ := hrow y l off cap ((rens [id] c).map fl) hok (window h2 (recs_unders hu l)) h3 (by rw [List.length_map, rens_length]; exact h4) (unders_fl _)
    have hw := (hrow _ Done.intro).out
    refine ⟨[id], LA, mkA y (.sl 0 off l.length n cap), _, _, by simpa using hid, rfl, rfl, hnew _, fun ρ vs hρ hr => hp y _ _ ρ _ vs (fun v hv => sl_pick rfl (by rw [hρ]; exact hid) hv) hr, ?_⟩
    simp only [pickH, List.map_cons, List.map_nil, lock_pick h1, flB]
    exact hw
theorem s2 (hT : Follows T Γ) (hΓ : Sound P Γ) (hmo : P.follows .mixedOrders = true) {f : FuncId} {fn : Func} (hf : fnOk1 P W f fn) {Y α β : Type} {n m : Nat} {mk : α → List AV} {mk' : β → List AV} {mkA : Y → AV → AV → List AV} {ok : Y × List α × List β → Prop} {res : Y × List α × List β → AV × Hp}
    (hp : Plain2 mkA) (hu : ∀ x, AV.unders 0 (mk x) = true) (hu' : ∀ x, AV.unders 0 (mk' x) = true) (hnew : ∀ x, newOk (res x).2 = true)
    (h00 : ∀ y, ok (y, [], []) → ∃ LA, ∀ R, Done 0 (res (y, [], [])) R → Holds (wpFn P T W LA 0 fn (mkA y .sn .sn) [] R))
    (h10 : ∀ y l off cap c, ok (y, l, []) → (c.drop off).take (l.length * n) = recs mk l → l.length ≤ cap.getD l.length → off + l.length * n ≤ c.length → AV.unders 0 c = true → ∃ LA, ∀ R, Done 1 (res (y, l, [])) R → Holds (wpFn P T W LA 1 fn (mkA y (.sl 0 off l.length n cap) .sn) [.cells c false] R))
    (h01 : ∀ y l off cap c, ok (y, [], l) → (c.drop off).take (l.length * m) = recs mk' l → l.length ≤ cap.getD l.length → off + l.length * m ≤ c.length → AV.unders 0 c = true → ∃ LA, ∀ R, Done 1 (res (y, [], l)) R → Holds (wpFn P T W LA 1 fn (mkA y .sn (.sl 0 off l.length m cap)) [.cells c false] R))
    (h11 : ∀ y l l' off cap c off' cap' c', ok (y, l, l') → (c.drop off).take (l.length * n) = recs mk l → (c'.drop off').take (l'.length * m) = recs mk' l' → l.length ≤ cap.getD l.length → l'.length ≤ cap'.getD l'.length → off + l.length * n ≤ c.length → off' + l'.length * m ≤ c'.length → AV.unders 0 c = true → AV.unders 0 c' = true → ∃ LA, ∀ R, Done 2 (res (y, l, l')) R →
      Holds (wpFn P T W LA 2 fn (mkA y (.sl 0 off l.length n cap) (.sl 1 off' l'.length m cap')) [.cells c false, .cells c' false] R)) : SoundF P f (Cof (S2 n m mk mk' mkA ok res)) := by
  refine SoundF.laidA hT hΓ hmo hf fun args h r h' hc => ?_
  obtain ⟨⟨y, l, l'⟩, as, rfl, hl, hk, hok, rfl, rfl⟩ := Cof_spec hc
  obtain ⟨a, b, rfl⟩ := len_two hl
  simp only [List.getD_cons_zero, List.getD_cons_succ]
  rcases hk 0 a _ rfl rfl with ⟨rfl, h1, h2⟩ | ⟨id, off, cap, c, wr, rfl, h1, h2, h3, h4⟩ <;> rcases hk 1 b _ rfl rfl with ⟨rfl, g1, g2⟩ | ⟨id', off', cap', c', wr', rfl, g1, g2, g3, g4⟩
  · simp only [ldOf, List.length_eq_zero_iff] at h1 g1
    subst h1 g1
    obtain ⟨LA, h00⟩ := h00 y hok
    exact ⟨[], LA, mkA y .sn .sn, _, _, by simp, rfl, rfl, hnew _, fun ρ vs _ hr => hp y .sn .sn .sn .sn ρ _ vs (fun v hv => hv) (fun v hv => hv) hr, (h00 _ Done.intro).out⟩
  · simp only [ldOf, List.length_eq_zero_iff] at h1
    subst h1
    simp only [ldOf] at g1 g2 g3 g4 ⊢
    have hid := (List.getElem?_eq_some_iff.1 (hcells_some g1)).1
    obtain ⟨LA, h01⟩ := h01 y l' off' cap' ((rens [id'] c').map fl) hok (window g2 (recs_unders hu' l')) g3 (by rw [List.length_map, rens_length]; exact g4) (unders_fl _)
    have hw := (h01 _ Done.intro).out
    refine ⟨[id'], LA, mkA y .sn (.sl 0 off' l'.length m cap'), _, _, by simpa using hid, rfl, rfl, hnew _, fun ρ vs hρ hr => hp y .sn .sn _ _ ρ _ vs (fun v hv => hv) (fun v hv => sl_pick rfl (by rw [hρ]; exact hid) hv) hr, ?_⟩
    simp only [pickH, List.map_cons, List.map_nil, lock_pick g1, flB]
    exact hw
  · simp only [ldOf, List.length_eq_zero_iff] at g1
    subst g1
    simp only [ldOf] at h1 h2 h3 h4 ⊢
    have hid := (List.getElem?_eq_some_iff.1 (hcells_some h1)).1
    obtain ⟨LA, h10⟩ := h10 y l off cap ((rens [id] c).map fl) hok (window h2 (recs_unders hu l)) h3 (by rw [List.length_map, rens_length]; exact h4) (unders_fl _)
    have hw := (h10 _ Done.intro).out
    refine ⟨[id], LA, mkA y (.sl 0 off l.length n cap) .sn, _, _, by simpa using hid, rfl, rfl, hnew _, fun ρ vs hρ hr => hp y _ _ _ _ ρ _ vs (fun v hv => sl_pick rfl (by rw [hρ]; exact hid) hv) (fun v (hv : VRel ρ .sn v) => (hv : VRel (pickR ρ [id]) .sn v)) hr, ?_⟩
    simp only [pickH, List.map_cons, List.map_nil, lock_pick h1, flB]
    exact hw
  · simp only [ldOf] at h1 h2 g1 g2 h3 g3 h4 g4 ⊢
    have hid := (List.getElem?_eq_some_iff.1 (hcells_some h1)).1
    have hid' := (List.getElem?_eq_some_iff.1 (hcells_some g1)).1
    obtain ⟨LA, h11⟩ := h11 y l l' off cap ((rens [id, id'] c).map fl) off' cap' ((rens [id, id'] c').map fl) hok (window h2 (recs_unders hu l)) (window g2 (recs_unders hu' l')) h3 g3 (by rw [List.length_map, rens_length]; exact h4) (by rw [List.length_map, rens_length]; exact g4) (unders_fl _) (unders_fl _)
    have hw := (h11 _ Done.intro).out
    refine ⟨[id, id'], LA, mkA y (.sl 0 off l.length n cap) (.sl 1 off' l'.length m cap'), _, _, ?_, rfl, rfl, hnew _, fun ρ vs hρ hr => hp y _ _ _ _ ρ _ vs (fun v hv => sl_pick rfl (by rw [hρ]; exact hid) hv) (fun v hv => sl_pick rfl (by rw [hρ]; exact hid') hv) hr, ?_⟩
    · intro j hj
      simp only [List.mem_cons, List.not_mem_nil, or_false] at hj
      rcases hj with rfl | rfl <;> assumption
    · simp only [pickH, List.map_cons, List.map_nil, lock_pick h1, lock_pick g1, flB]
      exact hw
theorem Done.flat {k : Nat} {r : AV} {R : AV → Hp → Prop} (hR : Done k (r, []) R) (hu : r.under 0 = true) {h1 : Hp} (hl : k ≤ h1.length) : R r h1 := by
  refine hR r h1 (gcR (List.range k) h1) (by simp [gcR]) ?_
  rw [List.append_nil]
  refine Wk.rows (List.range k) List.nodup_range ?_ (by rw [List.take_of_length_le (by simp)]) rfl ?_
  · simp only [List.all_eq_true, List.mem_range, decide_eq_true_eq]; omega
  · rw [reAs, reAs, reA_flat _ hu, reA_flat _ hu]
theorem posOf_range_new (k id : Nat) (h : k ≤ id) : posOf (List.range k ++ [id]) id = some k := by
  have hno : id ∉ List.range k := by simp; omega
  have : ∀ (J : List Nat), id ∉ J → posOf (J ++ [id]) id = some J.length := by
    intro J
    induction J with
    | nil => intro _; simp [posOf]
    | cons j J ih =>
      intro hj
      simp only [List.mem_cons, not_or] at hj
      simp [posOf, Ne.symm hj.1, ih hj.2]
  rw [this _ hno]; simp
theorem Done.row {k : Nat} {r : AV} {c : List AV} {R : AV → Hp → Prop} (hR : Done k (r, [.cells c true]) R) {h1 : Hp} {id : Nat} {v : AV} (hid : h1[id]? = some (.cells c true)) (hk : k ≤ id) (hu : AV.unders 0 c = true)
    (hv : ∀ f : Nat → Option Nat, f id = some k → reA f v = reA (sh k) r) : R v h1 := by
  have hlt := (List.getElem?_eq_some_iff.1 hid).1
  have hg : gcR (List.range k ++ [id]) h1 = (List.range k).map (fun j => reB (posOf (List.range k ++ [id])) (h1.getD j .dead)) ++ [.cells c true] := by
    rw [gcR, List.map_append, List.map_cons, List.map_nil, show h1.getD id .dead = .cells c true by rw [List.getD_eq_getElem?_getD, hid]; rfl, reB_flat _ hu]
  refine hR v h1 ((List.range k).map (fun j => reB (posOf (List.range k ++ [id])) (h1.getD j .dead))) (by rw [List.length_map, List.length_range]) ?_
  refine Wk.rows (List.range k ++ [id]) ?_ ?_ (by rw [List.take_append_of_le_length (by simp), List.take_of_length_le (by simp)]) hg ?_
  · rw [List.nodup_append]
    refine ⟨List.nodup_range, by simp, fun a ha b hb => ?_⟩
    simp only [List.mem_range, List.mem_singleton] at ha hb
    omega
  · simp only [List.all_append, List.all_eq_true, List.mem_range, decide_eq_true_eq, Bool.and_eq_true, List.mem_singleton, forall_eq]
    exact ⟨fun a ha => by omega, hlt⟩
  · rw [reAs, reAs, hv _ (posOf_range_new k id hk)]
def resL {α : Type} (n : Nat) (mk : α → List AV) (es : List α) : AV × Hp := match es with
  | [] => (.sn, [])
  | e :: es => (.sl 0 0 (es.length + 1) n none, [.cells (recs mk (e :: es)) true])
def outL {α : Type} (n : Nat) (mk : α → List AV) (es : List α) (K : AV → Hp → Prop) : Prop := (Holds (es = []) → K .sn []) ∧ (Holds (es ≠ []) → K (.sl 0 0 es.length n none) [.cells (recs mk es) true])
theorem outL_spec {α : Type} {n : Nat} {mk : α → List AV} {es : List α} {K : AV → Hp → Prop} (h : outL n mk es K) : K (resL n mk es).1 (resL n mk es).2 := by
  cases es with
  | nil => exact h.1 ⟨rfl⟩
  | cons e es => exact h.2 ⟨by simp⟩
theorem resL_new {α : Type} {n : Nat} {mk : α → List AV} (hu : ∀ x, AV.unders 0 (mk x) = true) (es : List α) : newOk (resL n mk es).2 = true := by
  cases es with
  | nil => rfl
  | cons e es => simp [resL, newOk, Blk.wrB, recs_unders hu]
theorem Done.listNil {α : Type} {n : Nat} {mk : α → List AV} {es : List α} {k : Nat} {R : AV → Hp → Prop} (hR : Done k (resL n mk es) R) (he : es = []) {h1 : Hp} (hl : k ≤ h1.length) : R .sn h1 := by
  subst he
  exact Done.flat (r := .sn) hR rfl hl
theorem Done.listRow {α : Type} {n : Nat} {mk : α → List AV} {es : List α} {k : Nat} {R : AV → Hp → Prop} (hR : Done k (resL n mk es) R) (hu : ∀ x, AV.unders 0 (mk x) = true) (he : es ≠ []) {h1 : Hp} {id len : Nat} (hlen : len = es.length) (hid : h1[id]? = some (.cells (recs mk es) true)) (hk : k ≤ id) : R (.sl id 0 len n none) h1 := by
  subst hlen
  cases es with
  | nil => exact absurd rfl he
  | cons e es => exact Done.row hR hid hk (recs_unders hu _) fun f hf => by simp [reA, hf, sh]
end
end Go.Proofs.Ytnfbgfmdjaodgaa.Eng
