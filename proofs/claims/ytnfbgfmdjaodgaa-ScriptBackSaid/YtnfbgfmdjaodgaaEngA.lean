/- A run of Go code over values without addresses: what a function answers, and what it leaves in the rows that it may write. Plain definitions. -/
import Derived.Orders
import Derived.Tactics
import Derived.RowKit
import Derived.KernelRfl
namespace Go.Proofs.Ytnfbgfmdjaodgaa.Eng

inductive AV where
  | bad
  | bo (b : Bool)
  | i (k : IntKind) (n : Int)
  | s (x : ByteArray)
  | pn
  | p (id off : Nat)
  | sn
  | sl (id off len esz : Nat) (cap : Option Nat)
  | mn
  | m (id : Nat)
  | nf
  | ni
  | ic (t : TypeId) (v : AV)
  | fn (f : FuncId) (caps : List AV)
  | ag (xs : List AV)
  | tu (xs : List AV)
  deriving Inhabited

inductive Blk where
  | cells (c : List AV) (wr : Bool)
  | map (es : List (AV × AV))
  | iter (s : ByteArray) (pos : Nat)
  | dead
  deriving Inhabited

abbrev Hp := List Blk
structure St where
  t : List AV
  h : Hp

def flatV : Value → AV
  | .bool b => .bo b
  | .int k n => .i k n
  | .string s => .s s
  | .pointer none => .pn
  | .slice none 0 0 => .sn
  | .map none => .mn
  | .nilFunc => .nf
  | .nilIface => .ni
  | _ => .bad
def ofV : Value → AV
  | .agg cs => .ag (cs.toList.map flatV)
  | .tuple cs => .tu (cs.toList.map flatV)
  | v => flatV v
def und : AV := .tu []
def ev (t : List AV) : Operand → AV
  | .tmp n => t.getD n und
  | .const v => ofV v
  | .global _ => .bad
  | .func f => .fn f []
def AV.cells : AV → List AV
  | .ag xs => xs
  | v => [v]
def AV.one : AV → Bool
  | .ag _ | .tu _ | .bad => false
  | _ => true
def AV.good : AV → Bool
  | .bad => false
  | _ => true
def setAll : List AV → Nat → List AV → List AV
  | c, _, [] => c
  | c, o, x :: xs => setAll (c.set o x) (o + 1) xs

section
variable (P : Program)
def aggB (t : TypeId) : Bool := match P.underlying t with
  | some (.struct _) | some (.array _ _) => true
  | _ => false
def asz (t : TypeId) : Option Nat := (P.info? t).map (·.size)
def zeroC (t : TypeId) : Option (List AV) := ((P.info? t).bind (·.zero)).bind fun v => if (ofV v).good then some (ofV v).cells else none
def partOf (xs : List AV) (t : TypeId) (off : Nat) : Option AV :=
  if (P.underlying t).isNone then none else
  if aggB P t then (asz P t).map fun n => .ag ((xs.drop off).take n) else xs[off]?

def aint (op : BinOp) (k : IntKind) (a b : Int) : Option AV :=
  match op with
  | .add => some (.i k (k.wrap (a + b)))
  | .sub => some (.i k (k.wrap (a - b)))
  | .mul => some (.i k (k.wrap (a * b)))
  | .quo => if b = 0 then none else some (.i k (k.wrap (a.tdiv b)))
  | .rem => if b = 0 then none else some (.i k (a.tmod b))
  | .and => some (.i k (Go.bits .and k a b))
  | .or => some (.i k (Go.bits .or k a b))
  | .xor => some (.i k (Go.bits .xor k a b))
  | .andNot => some (.i k (Go.bits .andNot k a b))
  | .eql => some (.bo (a == b))
  | .neq => some (.bo (a != b))
  | .lss => some (.bo (decide (a < b)))
  | .leq => some (.bo (decide (a ≤ b)))
  | .gtr => some (.bo (decide (a > b)))
  | .geq => some (.bo (decide (a ≥ b)))
  | _ => none
def ashift (op : BinOp) (k : IntKind) (x y : Int) : Option AV :=
  if y < 0 then none else match op with
  | .shl => some (.i k (k.wrap (x * 2 ^ (min y.toNat k.bits))))
  | .shr => some (.i k (x.fdiv (2 ^ (min y.toNat k.bits))))
  | _ => none
def astr (op : BinOp) (a b : ByteArray) : Option AV :=
  match op with
  | .add => if a.size + b.size ≤ 9223372036854775807 then some (.s (a ++ b)) else none
  | .eql => some (.bo (a.toList == b.toList))
  | .neq => some (.bo (!(a.toList == b.toList)))
  | _ => none
mutual
def aeq : Nat → TypeId → AV → AV → Option Bool
  | 0, _, _, _ => none
  | d + 1, t, x, y =>
    match P.underlying t, x, y with
    | some .bool, .bo a, .bo b => some (a == b)
    | some (.int _), .i k a, .i k' b => if k = k' then some (a == b) else none
    | some .string, .s a, .s b => some (a == b)
    | some (.pointer _), .pn, .pn => some true
    | some (.pointer _), .pn, .p _ _ => some false
    | some (.pointer _), .p _ _, .pn => some false
    | some (.pointer e), .p a i, .p b j => match asz P e with
      | some (_ + 1) => if a = b then some (i == j) else none
      | _ => none
    | some (.interface _), .ni, .ni => some true
    | some (.interface _), .ni, .ic _ _ => some false
    | some (.interface _), .ic _ _, .ni => some false
    | some (.interface _), .ic a v, .ic b w => if a ≠ b then some false else if ((P.info? a).map (·.comparable)) = some true then aeq d a v w else none
    | some (.struct fs), .ag xs, .ag ys => if P.stoodInHeld t then none else aeqF d xs ys fs.toList
    | some (.array n e), .ag xs, .ag ys => (asz P e).bind fun sz => aeqA d xs ys e sz n 0
    | some (.slice _), .sn, .sn => some true
    | some (.slice _), .sn, .sl _ _ _ _ _ => some false
    | some (.slice _), .sl _ _ _ _ _, .sn => some false
    | some (.map _ _), .mn, .mn => some true
    | some (.map _ _), .mn, .m _ => some false
    | some (.map _ _), .m _, .mn => some false
    | some (.func _ _ _), .nf, .nf => some true
    | some (.func _ _ _), .nf, .fn _ _ => some false
    | some (.func _ _ _), .fn _ _, .nf => some false
    | _, _, _ => none
def aeqF : Nat → List AV → List AV → List Field → Option Bool
  | 0, _, _, _ => none
  | _ + 1, _, _, [] => some true
  | d + 1, xs, ys, f :: fs =>
    if f.name = "_" then aeqF d xs ys fs else
    (partOf P xs f.type f.offset).bind fun x => (partOf P ys f.type f.offset).bind fun y => (aeq d f.type x y).bind fun b => if b then aeqF d xs ys fs else some false
def aeqA : Nat → List AV → List AV → TypeId → Nat → Nat → Nat → Option Bool
  | 0, _, _, _, _, _, _ => none
  | _ + 1, _, _, _, _, 0, _ => some true
  | d + 1, xs, ys, e, sz, n + 1, i =>
    (partOf P xs e (i * sz)).bind fun x => (partOf P ys e (i * sz)).bind fun y => (aeq d e x y).bind fun b => if b then aeqA d xs ys e sz n (i + 1) else some false
end
def guardAB (t : TypeId) (x y : Operand) (a b : AV) : Bool :=
  match a, b with
  | .ni, .ni => (match x with | .const _ => true | _ => false) || (match y with | .const _ => true | _ => false)
  | .ag _, .ag _ => !P.eqGuardType P.depth t
  | .bad, _ => false
  | _, .bad => false
  | _, _ => true
def guardOk (op : BinOp) (t : TypeId) (x y : Operand) (a b : AV) : Bool :=
  match op with
  | .eql => guardAB P t x y a b
  | .neq => guardAB P t x y a b
  | _ => true
def abin (op : BinOp) (t : TypeId) (x y : AV) : Option AV :=
  match x, y with
  | .i k a, .i k' b => match op with
    | .shl => ashift .shl k a b
    | .shr => ashift .shr k a b
    | op => if k = k' then aint op k a b else none
  | .s a, .s b => astr op a b
  | x, y => match op with
    | .eql => (aeq P 200 t x y).map .bo
    | .neq => (aeq P 200 t x y).map fun b => .bo (!b)
    | _ => none
def aun (op : UnOp) (x : AV) : Option AV :=
  match op, x with
  | .neg, .i k n => some (.i k (k.wrap (0 - n)))
  | .xor, .i k n => some (.i k (Go.bits .xor k (if k.signed then -1 else k.max) n))
  | .not, .bo b => some (.bo !b)
  | _, _ => none
def aconv (src dst : TypeId) (x : AV) : Option AV :=
  match P.underlying src, P.underlying dst, x with
  | some _, some (.int k), .i _ n => some (.i k (k.wrap n))
  | some _, some .string, .s a => some (.s a)
  | _, _, _ => none
def aplace (fs : Array Field) (i : Nat) : Option (Nat × Nat) := (fs[i]?).bind fun f => (asz P f.type).map fun n => (f.offset, n)
def afill (pl : Nat → Option (Nat × Nat)) : List AV → List (Nat × AV) → Option (List AV)
  | c, [] => some c
  | c, (i, v) :: r => match pl i with
    | none => none
    | some (off, sz) => if v.cells.length = sz ∧ off + v.cells.length ≤ c.length then afill pl (setAll c off v.cells) r else none
def abuild (t : TypeId) (parts : List (Nat × AV)) : Option AV :=
  if parts.all (fun q => q.2.good) then (zeroC P t).bind fun z => match P.underlying t with
    | some (.struct fs) => if fs.toList.all (fun f => (asz P f.type).isSome) then (afill (aplace P fs) z parts).map .ag else none
    | some (.array _ e) => (asz P e).bind fun n => (afill (fun i => some (i * n, n)) z parts).map .ag
    | _ => none
  else none
def afieldAddr (t : TypeId) (x : AV) (f : Nat) : Option AV :=
  match P.underlying t, x with
  | some (.struct fs), .p id off => (fs[f]?).bind fun fd => match asz P fd.type with
    | some (_ + 1) => some (.p id (off + fd.offset))
    | _ => none
  | _, _ => none
def afield (t : TypeId) (x : AV) (f : Nat) : Option AV :=
  match P.underlying t, x with
  | some (.struct fs), .ag xs => (fs[f]?).bind fun fd => partOf P xs fd.type fd.offset
  | _, _ => none
def aindexAddr (t : TypeId) (x ix : AV) : Option AV :=
  match P.underlying t, x, ix with
  | some (.array n e), .p id off, .i _ i => (asz P e).bind fun sz => if 0 ≤ i ∧ i < n then some (.p id (off + i.toNat * sz)) else none
  | some (.slice e), .sl id off len esz _, .i _ i => if asz P e = some esz ∧ 0 ≤ i ∧ i < len then some (.p id (off + i.toNat * esz)) else none
  | _, _, _ => none
def aindex (t : TypeId) (x ix : AV) : Option AV :=
  match P.underlying t, x, ix with
  | some (.array n e), .ag xs, .i _ i => (asz P e).bind fun sz => if 0 ≤ i ∧ i < n then partOf P xs e (i.toNat * sz) else none
  | some .string, .s a, .i _ i => if 0 ≤ i then (a[i.toNat]?).map fun b => .i .u8 b.toNat else none
  | _, _, _ => none
def abnd (v : Option AV) (top dflt : Nat) : Option Nat :=
  match v with
  | none => some dflt
  | some (.i _ i) => if 0 ≤ i ∧ i ≤ top then some i.toNat else none
  | some _ => none
def aslice (t : TypeId) (x : AV) (lo hi mx : Option AV) : Option AV :=
  match P.underlying t, x, mx with
  | some .string, .s a, none => (abnd hi a.size a.size).bind fun h => (abnd lo h 0).map fun l => .s (a.extract l h)
  | some (.slice e), .sl id off len esz cap, none => if asz P e = some esz then (abnd hi (cap.getD len) len).bind fun h => (abnd lo h 0).map fun l => .sl id (off + l * esz) (h - l) esz (cap.map fun c => c - l) else none
  | some (.slice e), .sn, none => if (asz P e).isSome then (abnd hi 0 0).bind fun h => (abnd lo h 0).map fun _ => .sn else none
  | some (.array n e), .p id off, none => match asz P e with
    | some (k + 1) => (abnd hi n n).bind fun h => (abnd lo h 0).map fun l => .sl id (off + l * (k + 1)) (h - l) (k + 1) (some (n - l))
    | _ => none
  | _, _, _ => none
def aassert (x : AV) (asserted : TypeId) (ok : Bool) : Option AV :=
  match P.underlying asserted, x with
  | some (.interface _), _ => none
  | some _, .ic t v => if t = asserted then (if ok then some (.tu [v, .bo true]) else some v) else if ok then ((P.info? asserted).bind (·.zero)).map fun z => .tu [ofV z, .bo false] else none
  | some _, .ni => if ok then ((P.info? asserted).bind (·.zero)).map fun z => .tu [ofV z, .bo false] else none
  | _, _ => none
def alen (t : TypeId) (x : AV) : Option AV :=
  match P.underlying t, x with
  | some .string, .s a => some (.i .i64 a.size)
  | some (.array n _), _ => some (.i .i64 n)
  | some (.slice _), .sn => some (.i .i64 0)
  | some (.slice _), .sl _ _ n _ _ => some (.i .i64 n)
  | _, _ => none
def amax : AV → AV → Option AV
  | .i k x, .i _ y => some (.i k (if y > x then y else x))
  | _, _ => none
def amin : AV → AV → Option AV
  | .i k x, .i _ y => some (.i k (if y < x then y else x))
  | _, _ => none

def abuiltin (E : Operand → AV) (c : Call) : Option AV :=
  match c.callee with
  | .builtin .len => match c.args.toList, c.argTypes.toList with
    | [x], [t] => alen P t (E x)
    | _, _ => none
  | .builtin .max => match c.args.toList with
    | [x, y] => amax (E x) (E y)
    | _ => none
  | .builtin .min => match c.args.toList with
    | [x, y] => amin (E x) (E y)
    | _ => none
  | _ => none
def apure (E : Operand → AV) (o : Op) : Option AV :=
  match o with
  | .move x | .assign x => some (E x)
  | .pick c a b => match E c with
    | .bo t => some (if t then E a else E b)
    | _ => none
  | .build t parts => abuild P t (parts.toList.map fun q => (q.1, E q.2))
  | .nilCheck x => match E x with
    | .p id off => some (.p id off)
    | .ic t v => some (.ic t v)
    | .fn f c => some (.fn f c)
    | _ => none
  | .binOp op t x y _ => if guardOk P op t x y (E x) (E y) then abin P op t (E x) (E y) else none
  | .unOp op _ x => aun op (E x)
  | .convert src dst x => aconv P src dst (E x)
  | .makeInterface t x => match P.underlying t with
    | some (.interface _) => none
    | some _ => match E x with
      | .bad => none
      | v => some (.ic t v)
    | none => none
  | .makeFunc (.func f) first captured => if first.size = 0 then some (.fn f (captured.toList.map E)) else none
  | .fieldAddr t x f => afieldAddr P t (E x) f
  | .field t x f => afield P t (E x) f
  | .indexAddr t x ix => aindexAddr P t (E x) (E ix)
  | .index t x ix => aindex P t (E x) (E ix)
  | .slice t x lo hi mx => aslice P t (E x) (lo.map E) (hi.map E) (mx.map E)
  | .extract t ix => match E t with
    | .tu xs => xs[ix]?
    | _ => none
  | .typeAssert x _ asserted ok => aassert P (E x) asserted ok
  | .call c => abuiltin P E c
  | _ => none
end
end Go.Proofs.Ytnfbgfmdjaodgaa.Eng
