/- The readers' contracts, as definitions. -/
import Derived.Test.YtiknpjblmihmkaaDoorNumUtil
import Derived.Test.YtiknpjblmihmkaaDoorEngZ
set_option linter.unusedVariables false
set_option linter.unusedSimpArgs false
open Go Go.Proofs.YtiknpjblmihmkaaDoor.Eng Go.RowKit
namespace Go.Proofs.YtiknpjblmihmkaaDoor.NumRun
/-- The spec's functions: is a text there; which one; a number; the fault's code; the place behind it; the rest; its end. -/
structure Fs where
  G : ByteArray → Int → Int → Bool
  X : ByteArray → Int → Int → ByteArray
  N : ByteArray → Int → Int → Int
  C : Int → Int
  A : Int → Int → Int
  Y : ByteArray → Int → ByteArray
  Z : ByteArray → Int
def okS (s : ByteArray) (at_ : Int) : Prop := 0 ≤ at_ ∧ at_ ≤ s.size ∧ s.size ≤ 1000000
def okN (n : Int) : Prop := n = 1 ∨ n = 2 ∨ n = 4
def ok64 (n : Int) : Prop := -9223372036854775808 ≤ n ∧ n ≤ 9223372036854775807
/-- What a reader's call answers and leaves: v: the answer where there is one, v0: where there is none; q: may it be called so. -/
def tread (G : ByteArray → Int → Int → Bool) (q : Int → Prop) (v : ByteArray → Int → Int → AV) (v0 : AV) (C : Int → Int) (A : Int → Int → Int) (args : List AV) (h : Hp) (K : AV → Hp → Prop) : Prop := match args with
  | [.p r 0, .i .i64 n] => match h.getD r .dead with
    | .cells [.s s, .i .i64 a, .pn] true => Holds (okS s a ∧ q n) ∧ br (G s a n) (K (.tu [v s a n, .ni]) (h.set r (.cells [.s s, .i .i64 (A a n), .pn] true)))
        (lenK h fun m => K (.tu [v0, .ic 23 (.p (m + 1) 0)]) (h.set r (.cells [.s s, .i .i64 a, .p m 0] true) ++ [.cells [.i .i64 (C n), .i .i64 a] true, .cells [.i .i64 (C n), .i .i64 a] true]))
    | .cells [.s s, .i .i64 a, .p f 0] true => match h.getD f .dead with
      | .cells [.i .i64 c, .i .i64 b] true => Holds (okS s a ∧ q n) ∧ lenK h fun m => K (.tu [v0, .ic 23 (.p m 0)]) (h ++ [.cells [.i .i64 c, .i .i64 b] true])
      | _ => False
    | _ => False
  | _ => False
/-- .. where it is known to be there. -/
def treadG (G : ByteArray → Int → Int → Bool) (q : Int → Prop) (v : ByteArray → Int → Int → AV) (A : Int → Int → Int) (args : List AV) (h : Hp) (K : AV → Hp → Prop) : Prop := match args with
  | [.p r 0, .i .i64 n] => match h.getD r .dead with
    | .cells [.s s, .i .i64 a, .pn] true => Holds (okS s a ∧ q n) ∧ Holds (G s a n = true) ∧ K (.tu [v s a n, .ni]) (h.set r (.cells [.s s, .i .i64 (A a n), .pn] true))
    | _ => False
  | _ => False
def treadF (G : ByteArray → Int → Int → Bool) (q : Int → Prop) (v0 : AV) (C : Int → Int) (args : List AV) (h : Hp) (K : AV → Hp → Prop) : Prop := match args with
  | [.p r 0, .i .i64 n] => match h.getD r .dead with
    | .cells [.s s, .i .i64 a, .pn] true => Holds (okS s a ∧ q n) ∧ Holds (G s a n = false) ∧ 
        (lenK h fun m => K (.tu [v0, .ic 23 (.p (m + 1) 0)]) (h.set r (.cells [.s s, .i .i64 a, .p m 0] true) ++ [.cells [.i .i64 (C n), .i .i64 a] true, .cells [.i .i64 (C n), .i .i64 a] true]))
    | .cells [.s s, .i .i64 a, .p f 0] true => match h.getD f .dead with
      | .cells [.i .i64 c, .i .i64 b] true => Holds (okS s a ∧ q n) ∧ lenK h fun m => K (.tu [v0, .ic 23 (.p m 0)]) (h ++ [.cells [.i .i64 c, .i .i64 b] true])
      | _ => False
    | _ => False
  | _ => False
/-- The document's. -/
def tref (G : ByteArray → Int → Int → Bool) (q : Int → Prop) (v : ByteArray → Int → Int → AV) (v0 : AV) (C : Int → Int) (A : Int → Int → Int) (args : List AV) (h : Hp) (K : AV → Hp → Prop) : Prop := match args with
  | [.p r 0, .i .i64 n] => match h.getD r .dead with
    | .cells [.s s, .i .i64 a, .i .i64 c, .i .i64 b] true => Holds (okS s a ∧ q n) ∧ br (c == 0) (br (G s a n) (K (.tu [v s a n, .i .i64 0]) (h.set r (.cells [.s s, .i .i64 (A a n), .i .i64 0, .i .i64 b] true)))
        (K (.tu [v0, .i .i64 (C n)]) (h.set r (.cells [.s s, .i .i64 a, .i .i64 (C n), .i .i64 a] true)))) (K (.tu [v0, .i .i64 c]) h)
    | _ => False
  | _ => False
def trefG (G : ByteArray → Int → Int → Bool) (q : Int → Prop) (v : ByteArray → Int → Int → AV) (A : Int → Int → Int) (args : List AV) (h : Hp) (K : AV → Hp → Prop) : Prop := match args with
  | [.p r 0, .i .i64 n] => match h.getD r .dead with
    | .cells [.s s, .i .i64 a, .i .i64 c, .i .i64 b] true => Holds (okS s a ∧ q n) ∧ Holds (c = 0) ∧ Holds (G s a n = true) ∧ (K (.tu [v s a n, .i .i64 0]) (h.set r (.cells [.s s, .i .i64 (A a n), .i .i64 0, .i .i64 b] true)))
    | _ => False
  | _ => False
def trefF (G : ByteArray → Int → Int → Bool) (q : Int → Prop) (v0 : AV) (C : Int → Int) (args : List AV) (h : Hp) (K : AV → Hp → Prop) : Prop := match args with
  | [.p r 0, .i .i64 n] => match h.getD r .dead with
    | .cells [.s s, .i .i64 a, .i .i64 c, .i .i64 b] true => Holds (okS s a ∧ q n) ∧ Holds (c = 0 → G s a n = false) ∧ br (c == 0) 
        (K (.tu [v0, .i .i64 (C n)]) (h.set r (.cells [.s s, .i .i64 a, .i .i64 (C n), .i .i64 a] true))) (K (.tu [v0, .i .i64 c]) h)
    | _ => False
  | _ => False
def trest (Y : ByteArray → Int → ByteArray) (Z : ByteArray → Int) (args : List AV) (h : Hp) (K : AV → Hp → Prop) : Prop := match args with
  | [.p r 0] => match h.getD r .dead with
    | .cells [.s s, .i .i64 a, .pn] true => Holds (okS s a) ∧ K (.s (Y s a)) (h.set r (.cells [.s s, .i .i64 (Z s), .pn] true))
    | .cells [.s s, .i .i64 a, .p f 0] true => match h.getD f .dead with
      | .cells [.i .i64 c, .i .i64 b] true => K (.s ⟨#[]⟩) h
      | _ => False
    | _ => False
  | _ => False
def trrest (Y : ByteArray → Int → ByteArray) (Z : ByteArray → Int) (args : List AV) (h : Hp) (K : AV → Hp → Prop) : Prop := match args with
  | [.p r 0] => match h.getD r .dead with
    | .cells [.s s, .i .i64 a, .i .i64 c, .i .i64 b] true => Holds (okS s a) ∧ br (c == 0) (K (.s (Y s a)) (h.set r (.cells [.s s, .i .i64 (Z s), .i .i64 0, .i .i64 b] true))) (K (.s ⟨#[]⟩) h)
    | _ => False
  | _ => False
abbrev vT (F : Fs) (s : ByteArray) (a n : Int) : AV := .s (F.X s a n)
abbrev vN (F : Fs) (s : ByteArray) (a n : Int) : AV := .i .i64 (F.N s a n)
abbrev tText (F : Fs) := tread F.G ok64 (vT F) (.s ⟨#[]⟩) F.C F.A
abbrev tNum (F : Fs) := tread F.G okN (vN F) (.i .i64 0) F.C F.A
abbrev trText (F : Fs) := tref F.G ok64 (vT F) (.s ⟨#[]⟩) F.C F.A
abbrev trNum (F : Fs) := tref F.G okN (vN F) (.i .i64 0) F.C F.A
def bads (n : Nat) : List AV := List.replicate n .bad
/-- An int in a row. -/
def Get.rint (d k : Nat) : Get Int := ⟨fun s K => match s.t.getD d und with
  | .p id _ => match s.h.getD id .dead with
    | .cells c _ => match c.getD k und with
      | .i _ n => K n
      | _ => False
    | _ => False
  | _ => False, fun s K h => by
    split at h
    · split at h
      · split at h
        · exact ⟨_, h⟩
        · exact h.elim
      · exact h.elim
    · exact h.elim⟩
/-- An int in a row to which a row leads. -/
def Get.rrint (d k j : Nat) : Get Int := ⟨fun s K => match s.t.getD d und with
  | .p id _ => match s.h.getD id .dead with
    | .cells c _ => match c.getD k und with
      | .p id' _ => match s.h.getD id' .dead with
        | .cells c' _ => match c'.getD j und with
          | .i _ n => K n
          | _ => False
        | _ => False
      | _ => False
    | _ => False
  | _ => False, fun s K h => by
    split at h
    · split at h
      · split at h
        · split at h
          · split at h
            · exact ⟨_, h⟩
            · exact h.elim
          · exact h.elim
        · exact h.elim
      · exact h.elim
    · exact h.elim⟩
/-- number's loop. -/
def head32 (s t : ByteArray) (a n z : Int) : Nat → Option Head := fun r => match r with
  | 4 => some (Head.one (Get.and (Get.int 8) (Get.int 18)) fun q => ⟨[.p 0 0, .i .i64 n, .bad, .bad, .bad, .bad, .s t, .ni, .i .i64 q.1, .bad, .bad, .bad, .bad, .bad, .bad, .bad, .bad, .i .i64 z, .i .i64 q.2] ++ bads 12, [.cells [.s s, .i .i64 a, .pn] true]⟩)
  | _ => none
def head22 (s t : ByteArray) (a n b : Int) : Nat → Option Head := fun r => match r with
  | 4 => some (Head.one (Get.and (Get.int 8) (Get.int 9)) fun q => ⟨[.p 0 0, .i .i64 n, .bad, .bad, .bad, .bad, .s t, .i .i64 0, .i .i64 q.1, .i .i64 q.2] ++ bads 21, [.cells [.s s, .i .i64 a, .i .i64 0, .i .i64 b] true]⟩)
  | _ => none
def head24 (s : ByteArray) (n b : Int) : Nat → Option Head := fun r => match r with
  | 12 => some (Head.one (Get.and (Get.str 6) (Get.and (Get.int 7) (Get.rint 0 1))) fun q => ⟨[.p 0 0, .i .i64 n, .bad, .bad, .bad, .bad, .s q.1, .i .i64 q.2.1] ++ bads 84, [.cells [.s s, .i .i64 q.2.2, .i .i64 0, .i .i64 b] true]⟩)
  | _ => none
def nowhere' (r0 : Nat) : Nat → Option Head := fun r => if r = r0 then some (Head.one (Get.int 999) fun _ => ⟨[], []⟩) else none
def W5 : Nat → Option Eng.Road := fun r => match r with
  | 34 => some ⟨some ([], (.pure 0 (.pure 2 (.pure 3 (.pure 4 (.old 5 (.eff 1 (.pure 6 (.pure 7 (.pure 8 (.pure 10 (.pure 11 (.pure 12 (.pure 13 (.pure 14 (.old 15 (.pure 16 (.eff 9 (.pure 17 (.pure 18 .nil)))))))))))))))))))), .nil⟩
  | _ => none
/-- Has the reader no fault? -/
def goodAt (d : Nat) (st : St) : Bool := match st.t.getD d und with
  | .p id _ => match st.h.getD id .dead with
    | .cells [_, _, .pn] _ => true
    | _ => false
  | _ => false
abbrev S5g (s : ByteArray) (off len : Nat) (cap : Option Nat) (c : List AV) (a i : Int) (more : List AV) : St := ⟨[.s s, .sl 0 off len 2 cap, .bad, .bad, .bad, .p 1 0, .p 2 0, .i .i64 i] ++ bads 34 ++ more ++ bads 109, [.cells c false, .cells [.s s, .i .i64 a, .pn] true, .cells [.s s, .i .i64 a, .i .i64 0, .i .i64 0] true]⟩
abbrev S5b (s : ByteArray) (off len : Nat) (cap : Option Nat) (c : List AV) (a f i : Int) (more : List AV) : St := ⟨[.s s, .sl 0 off len 2 cap, .bad, .bad, .bad, .p 1 0, .p 2 0, .i .i64 i] ++ bads 34 ++ more ++ bads 109, [.cells c false, .cells [.s s, .i .i64 a, .p 3 0] true, .cells [.s s, .i .i64 a, .i .i64 f, .i .i64 a] true, .cells [.i .i64 f, .i .i64 a] true]⟩
/-- The law's loop: the reader has no fault, or one. -/
def head5 (s : ByteArray) (off len : Nat) (cap : Option Nat) (c : List AV) : Nat → Option Head := fun r => match r with
  | 8 => some (Head.two (goodAt 5) (Get.and (Get.rint 5 1) (Get.int 7)) (fun q => S5g s off len cap c q.1 q.2 (bads 2)) (Get.and (Get.rint 5 1) (Get.and (Get.rrint 5 2 0) (Get.int 7))) (fun q => S5b s off len cap c q.1 q.2.1 q.2.2 (bads 2)))
  | 1034 => some (Head.two (goodAt 5) (Get.and (Get.rint 5 1) (Get.int 7)) (fun q => S5g s off len cap c q.1 q.2 (bads 2)) (Get.and (Get.rint 5 1) (Get.and (Get.rrint 5 2 0) (Get.int 7))) (fun q => S5b s off len cap c q.1 q.2.1 q.2.2 (bads 2)))
  | 1014 => some (Head.two (goodAt 5) (Get.and (Get.rint 5 1) (Get.and (Get.int 7) (Get.and (Get.int 42) (Get.boo 43)))) (fun q => S5g s off len cap c q.1 q.2.1 [.i .i64 q.2.2.1, .bo q.2.2.2]) (Get.and (Get.rint 5 1) (Get.and (Get.rrint 5 2 0) (Get.and (Get.int 7) (Get.and (Get.int 42) (Get.boo 43))))) (fun q => S5b s off len cap c q.1 q.2.1 q.2.2.1 [.i .i64 q.2.2.2.1, .bo q.2.2.2.2]))
  | _ => none
noncomputable abbrev T5 (F : Fs) : TEnv :=
  tcons 10 (tconst (.bo true)) (tcons 17 (tof Csame) (tcons 18 (tinl P tnil noW Go.Proofs.Tryd.f18) (tcons 27 (tinl P tnil noW Go.Proofs.Tryd.f27) (tcons 28 (tinl P tnil noW Go.Proofs.Tryd.f28)
  (tcons 19 (tinl P (tcons 32 (tNum F) tnil) noW Go.Proofs.Tryd.f19) (tcons 20 (tinl P (tcons 32 (tNum F) tnil) noW Go.Proofs.Tryd.f20) (tcons 21 (tinl P (tcons 32 (tNum F) tnil) noW Go.Proofs.Tryd.f21)
  (tcons 22 (trNum F) (tcons 23 (tText F) (tcons 24 (trText F) (tcons 25 (trest F.Y F.Z) (tcons 26 (trrest F.Y F.Z) tnil))))))))))))
end Go.Proofs.YtiknpjblmihmkaaDoor.NumRun
