/- Operations that lay rows, write them, or call. -/
import Derived.Test.YtnfbgfmdjaodgaaEngF
set_option linter.unusedVariables false
set_option linter.unusedSimpArgs false
namespace Go.Proofs.Ytnfbgfmdjaodgaa.Eng
open Go.RowKit

abbrev Env := FuncId → List AV → Hp → Option (AV × Hp)

def repl (n : Nat) (z : List AV) : List AV := (List.replicate n z).flatten
section
variable (P : Program)
def abuildSlice (h : Hp) (t : TypeId) (len : Nat) (parts : List (Nat × AV)) : Option (AV × Hp) :=
  match P.underlying t with
  | some (.slice e) => match asz P e with
    | some (k + 1) => if parts.all (fun q => q.2.good) && decide (len * (k + 1) ≤ 16777216) then
        (zeroC P e).bind fun z => if z.length = k + 1 then
          (afill (fun i => some (i * (k + 1), k + 1)) (repl len z) parts).map fun c => (.sl h.length 0 len (k + 1) (some len), h ++ [.cells c true])
        else none
      else none
    | _ => none
  | _ => none
def abyt (t : TypeId) : Option Nat := (P.info? t).map (·.bytes)
def amakeSlice (h : Hp) (t : TypeId) (len cap : AV) : Option (AV × Hp) :=
  match P.underlying t, len, cap with
  | some (.slice e), .i .i64 l, .i .i64 c => match asz P e, abyt P e with
    | some (k + 1), some b => if 0 ≤ l ∧ l ≤ c ∧ c ≤ 9223372036854775807 ∧ b * c ≤ 140737488355328 then
        (zeroC P e).bind fun z => if z.length = k + 1 then some (.sl h.length 0 l.toNat (k + 1) (some c.toNat), h ++ [.cells (repl c.toNat z) true]) else none
      else none
    | _, _ => none
  | _, _, _ => none
def bytesAV (s : ByteArray) : List AV := s.data.toList.map fun b => .i .u8 b.toNat
def atoBytes (h : Hp) (src dst : TypeId) (x : AV) : Option (AV × Hp) :=
  match P.underlying src, P.underlying dst, x with
  | some .string, some (.slice e), .s a => match P.underlying e with
    | some (.int .u8) => some (.sl h.length 0 a.size 1 none, h ++ [.cells (bytesAV a) true])
    | _ => none
  | _, _, _ => none
end
def srcCells (h : Hp) (esz : Nat) (n : Nat) (x : AV) : Option (List AV) :=
  match x with
  | .sn => if n = 0 then some [] else none
  | .sl id off len e _ => if e = esz ∧ n ≤ len then (hcells h id).bind fun q => if off + n * esz ≤ q.1.length then some ((q.1.drop off).take (n * esz)) else none else none
  | .s a => if esz = 1 ∧ n ≤ a.size then some (bytesAV (a.extract 0 n)) else none
  | _ => none
def srcLen (x : AV) : Option Nat :=
  match x with
  | .sn => some 0
  | .sl _ _ len _ _ => some len
  | .s a => some a.size
  | _ => none
section
variable (P : Program)
def aelem (e : TypeId) : Option (Nat × Nat) :=
  match asz P e, abyt P e with
  | some (k + 1), some (b + 1) => if ((P.info? e).bind (·.zero)).map (fun z => z.cells.size) = some (k + 1) then some (k + 1, b + 1) else none
  | _, _ => none
def aappend (h : Hp) (t : TypeId) (s x : AV) : Option (AV × Hp) :=
  match P.underlying t with
  | some (.slice e) => (aelem P e).bind fun sb => (srcLen x).bind fun n => (srcCells h sb.1 n x).bind fun new =>
      match s with
      | .sn => if n = 0 then some (.sn, h) else if n * sb.2 ≤ 140737488355328 then some (.sl h.length 0 n sb.1 none, h ++ [.cells new true]) else none
      | .sl id off len esz cap => if esz = sb.1 then
          if n = 0 then some (.sl id off len esz cap, h) else (hcells h id).bind fun q =>
          if (len + n) * sb.2 ≤ 140737488355328 ∧ off + len * esz ≤ q.1.length then
            match cap with
            | some c => if len + n ≤ c then (if q.2 = true ∧ off + (len + n) * esz ≤ q.1.length ∧ new.all AV.one = true then some (.sl id off (len + n) esz (some c), h.set id (.cells (setAll q.1 (off + len * esz) new) true)) else none)
                else some (.sl h.length 0 (len + n) esz none, h ++ [.cells ((q.1.drop off).take (len * esz) ++ new) true])
            | none => if q.2 = true ∧ new.all AV.one = true then
                (if off + (len + n) * esz ≤ q.1.length then some (.sl id off (len + n) esz none, h.set id (.cells (setAll q.1 (off + len * esz) new) true))
                else if off + len * esz = q.1.length then some (.sl h.length 0 (len + n) esz none, h.set id .dead ++ [.cells (q.1.drop off ++ new) true])
                else none) else none
          else none
        else none
      | _ => none
  | _ => none
def acopy (h : Hp) (t : TypeId) (d x : AV) : Option (AV × Hp) :=
  match P.underlying t with
  | some (.slice e) => match asz P e with
    | some (k + 1) => (srcLen x).bind fun n =>
      match d with
      | .sn => some (.i .i64 0, h)
      | .sl id off len esz cap => if esz = k + 1 then (srcCells h esz (min n len) x).bind fun new => (hcells h id).bind fun q =>
          if q.2 = true ∧ off + new.length ≤ q.1.length ∧ new.all AV.one = true then some (.i .i64 (min n len : Nat), h.set id (.cells (setAll q.1 off new) true)) else none
        else none
      | _ => none
    | _ => none
  | _ => none
def acall (Γ : Env) (E : Operand → AV) (h : Hp) (c : Call) : Option (AV × Hp) :=
  match c.callee with
  | .value f => match E f with
    | .fn g caps => Γ g (c.args.toList.map E ++ caps) h
    | _ => none
  | .builtin .append => match c.args.toList, c.argTypes.toList with
    | [s, x], [t, u] => match P.underlying u with
      | some (.slice _) => aappend P h t (E s) (E x)
      | some .string => aappend P h t (E s) (E x)
      | _ => none
    | _, _ => none
  | .builtin .copy => match c.args.toList, c.argTypes.toList with
    | [d, x], [t, _] => acopy P h t (E d) (E x)
    | _, _ => none
  | _ => none
def arange (h : Hp) (t : TypeId) (x : AV) : Option (AV × Hp) :=
  match P.underlying t, x with
  | some .string, .s a => some (.p h.length 0, h ++ [.iter a 0])
  | _, _ => none
def anext (h : Hp) (x : AV) (isS : Bool) : Option (AV × Hp) :=
  match x, isS with
  | .p id 0, true => match h[id]? with
    | some (.iter a pos) => if pos < a.size then some (.tu [.bo true, .i .i64 pos, .i .i32 (Utf8.decode a pos).1], h.set id (.iter a (pos + (Utf8.decode a pos).2))) else some (.tu [.bo false], h)
    | _ => none
  | _, _ => none
def amark (h : Hp) (src dst : TypeId) (x : AV) : Option (AV × Hp) :=
  match P.underlying src, P.underlying dst, x with
  | some (.slice _), some (.slice e), .sl id off (n + 1) esz cap => if src = dst then match P.underlying e with
    | some (.int .u8) => (hcells h id).bind fun q => if q.2 = true ∧ 0 < q.1.length then some (x, h.set id (.cells q.1 false)) else none
    | _ => none
    else none
  | _, _, _ => none
def aeff (Γ : Env) (E : Operand → AV) (h : Hp) (o : Op) : Option (AV × Hp) :=
  match o with
  | .alloc t => (zeroC P t).map fun c => (.p h.length 0, h ++ [.cells c true])
  | .box t x => if (E x).good then some (.p h.length 0, h ++ [.cells (E x).cells true]) else none
  | .buildSlice t len parts => abuildSlice P h t len (parts.toList.map fun q => (q.1, E q.2))
  | .makeSlice t l c => amakeSlice P h t (E l) (E c)
  | .store t a x => (astore P h t (E a) (E x)).map fun h' => (und, h')
  | .convert src dst x => match atoBytes P h src dst (E x) with
    | some r => some r
    | none => amark P h src dst (E x)
  | .call c => acall P Γ E h c
  | .range t x => arange P h t (E x)
  | .next it s => anext h (E it) s
  | _ => none
end
def FnOk (P : Program) (f : FuncId) : Prop := ∃ fn, P.funcs[f]? = some fn ∧ fn.body.isNone = false ∧ (fn.name == "runtime.NumGoroutine") = false
def ExtRuns (P : Program) (f : FuncId) (args : List AV) (h : Hp) (r : AV) (h' : Hp) : Prop := ∀ own ρ w vs, HRel own ρ h w → VRels ρ args vs →
  ∃ σ z w', (callFunc f vs.toArray).run P w = .ok (.value z) w' ∧ HRel own (ρ ++ σ) h' w' ∧ VRel (ρ ++ σ) r z ∧ Keeps own w w'
def Sound (P : Program) (Γ : Env) : Prop := ∀ f args h r h', Γ f args h = some (r, h') → (FnOk P f ∧ ∀ own ρ w vs, HRel own ρ h w → VRels ρ args vs →
  Calls P f vs.toArray w fun e w' => ∃ σ z, e = .returned z ∧ HRel own (ρ ++ σ) h' w' ∧ VRel (ρ ++ σ) r z ∧ Keeps own w w') ∨ ExtRuns P f args h r h'

section
variable {P : Program} {own : Nat → Prop} {ρ : List Loc} {h : Hp} {w : World}

theorem repl_rel {z : List AV} {cs : Array Value} (hz : VRels ρ z cs.toList) : ∀ (n : Nat), VRels ρ (repl n z) (List.replicate n cs.toList).flatten
  | 0 => by simp [repl, VRels]
  | n + 1 => by
    simp only [repl, List.replicate_succ, List.flatten_cons]
    exact hz.append (repl_rel hz n)
theorem repl_length (n : Nat) (z : List AV) : (repl n z).length = n * z.length := by simp [repl]
theorem zeros_eq (cs : Array Value) (n : Nat) (hc : 0 < cs.size) : ((Array.range (n * cs.size)).map (fun i => cs[i % cs.size]!)).toList = (List.replicate n cs.toList).flatten := by
  apply List.ext_getElem?
  intro j
  by_cases hj : j < n * cs.size
  · have h1 : ((Array.range (n * cs.size)).map (fun i => cs[i % cs.size]!)).toList[j]? = some (cs[j % cs.size]!) := by
      simp [hj]
    rw [h1]
    have : ∀ m k, k < m * cs.size → (List.replicate m cs.toList).flatten[k]? = some (cs[k % cs.size]!) := by
      intro m
      induction m with
      | zero => intro k hk; omega
      | succ m ih =>
        intro k hk
        rw [List.replicate_succ, List.flatten_cons]
        by_cases hk2 : k < cs.size
        · rw [List.getElem?_append_left (by simpa using hk2), Nat.mod_eq_of_lt hk2]
          simp [hk2]
        · rw [List.getElem?_append_right (by simpa using Nat.le_of_not_lt hk2)]
          have := ih (k - cs.size) (by rw [Nat.succ_mul] at hk; omega)
          simp only [Array.length_toList]
          rw [this, ← Nat.mod_eq_sub_mod (Nat.le_of_not_lt hk2)]
    rw [this n j hj]
  · rw [List.getElem?_eq_none (by simp; omega), List.getElem?_eq_none (by simp; omega)]
end
end Go.Proofs.Ytnfbgfmdjaodgaa.Eng
