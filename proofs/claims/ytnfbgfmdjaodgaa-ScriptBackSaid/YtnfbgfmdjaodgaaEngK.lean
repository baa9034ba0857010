/- Code: what a run over values without addresses answers. Plain definitions. -/
import Derived.Test.YtnfbgfmdjaodgaaEngJ
import Derived.OrdersHeld
import Derived.Scope
import Derived.Deep.LoopGhost
set_option linter.unusedVariables false
set_option linter.unusedSimpArgs false
namespace Go.Proofs.Ytnfbgfmdjaodgaa.Eng

def kindOf (P : Program) (o : Op) : Nat :=
  match o with
  | .load _ _ => 1
  | .convert s d _ => match P.underlying s, P.underlying d with
    | some (.slice _), some .string => 1
    | some .string, some (.slice _) => 2
    | some (.slice _), some (.slice _) => 2
    | _, _ => 0
  | .alloc _ | .box _ _ | .buildSlice _ _ _ | .makeSlice _ _ _ | .store _ _ _ | .range _ _ | .next _ _ => 2
  | .call c => match c.callee with
    | .builtin .len | .builtin .max | .builtin .min => 0
    | _ => 2
  | _ => 0
def wantedA (ops : Array Oper) (t : List AV) (o : Oper) : Option Bool :=
  match o.guard with
  | none => some true
  | some (j, b) => match (ops[j]?).bind (·.dst) with
    | some d => match t[d]? with
      | some (.bo c) => some (c == b)
      | some .bad => none
      | _ => some false
    | none => some false
def putA (t : List AV) (dst : Option Tmp) (v : AV) : List AV :=
  match dst with
  | some d => t.set d v
  | none => t
def lockB : Blk → Blk
  | .cells c _ => .cells c false
  | _ => .dead
def lockH (h : Hp) : Hp := h.map lockB
def lockX (ids : List Nat) : Nat → Hp → Hp
  | _, [] => []
  | i, B :: r => (if ids.contains i then B else lockB B) :: lockX ids (i + 1) r
def oldX (ids : List Nat) : Nat → Hp → Hp
  | _, [] => []
  | i, B :: r => (if ids.contains i then .dead else lockB B) :: oldX ids (i + 1) r
def mergeX (ids : List Nat) : Nat → Hp → Hp → Hp
  | _, [], r' => r'
  | i, B :: r, [] => B :: r
  | i, B :: r, B' :: r' => (if ids.contains i then B' else B) :: mergeX ids (i + 1) r r'
def wrAt (h : Hp) (id : Nat) : Bool := match h[id]? with
  | some (.cells _ true) => true
  | _ => false
def idsOf (t : List AV) (h : Hp) (fr : List Tmp) : List Nat := (fr.filterMap fun d => match t.getD d und with
  | .p id _ => some id
  | .sl id _ _ _ _ => some id
  | _ => none).filter (wrAt h)
def freshOk (h : Hp) (n : Nat) : Bool := decide (n ≤ h.length) && (h.drop n).all fun B => B.wrB || !B.solid

inductive Plan where
  | nil
  | pure (k : Nat) (p : Plan)
  | any (k : Nat) (p : Plan)
  | old (k : Nat) (p : Plan)
  | eff (k : Nat) (p : Plan)
  | two (k1 : Nat) (p1 : Plan) (k2 : Nat) (p2 : Plan) (p : Plan)
  | pair (k1 k2 : Nat) (p : Plan)
  deriving Inhabited
structure Road where
  lock : Option (List Tmp × Plan)
  rest : Plan
  deriving Inhabited
mutual
def AV.same : AV → AV → Bool
  | .bad, .bad => true
  | .bo a, .bo b => a == b
  | .i k a, .i l b => decide (k = l) && a == b
  | .s a, .s b => decide (a = b)
  | .pn, .pn => true
  | .p a b, .p c d => a == c && b == d
  | .sn, .sn => true
  | .sl a b c d e, .sl a' b' c' d' e' => a == a' && b == b' && c == c' && d == d' && e == e'
  | .mn, .mn => true
  | .m a, .m b => a == b
  | .nf, .nf => true
  | .ni, .ni => true
  | .ic t v, .ic u w => t == u && AV.same v w
  | .fn f c, .fn g d => f == g && AV.sames c d
  | .ag x, .ag y => AV.sames x y
  | .tu x, .tu y => AV.sames x y
  | _, _ => false
def AV.sames : List AV → List AV → Bool
  | [], [] => true
  | x :: xs, y :: ys => AV.same x y && AV.sames xs ys
  | _, _ => false
end
def Blk.same : Blk → Blk → Bool
  | .cells c a, .cells d b => AV.sames c d && a == b
  | .map c, .map d => AV.sames (c.map (·.1)) (d.map (·.1)) && AV.sames (c.map (·.2)) (d.map (·.2))
  | .iter a p, .iter b q => decide (a = b) && p == q
  | .dead, .dead => true
  | _, _ => false
def Hp.same : Hp → Hp → Bool
  | [], [] => true
  | x :: xs, y :: ys => Blk.same x y && Hp.same xs ys
  | _, _ => false
def St.same (a b : St) : Bool := AV.sames a.t b.t && Hp.same a.h b.h

section
variable (P : Program) (Γ : Env)
def pureOp (ops : Array Oper) (s : St) (o : Oper) : Option St :=
  match wantedA ops s.t o with
  | some true => match apure P (ev s.t) o.op with
    | some v => some ⟨putA s.t o.dst v, s.h⟩
    | none => none
  | some false => some ⟨putA s.t o.dst und, s.h⟩
  | none => none
def readOp (ops : Array Oper) (hh : Hp) (s : St) (o : Oper) : Option St :=
  match wantedA ops s.t o with
  | some true => match aread P (ev s.t) hh o.op with
    | some v => some ⟨putA s.t o.dst v, s.h⟩
    | none => none
  | some false => some ⟨putA s.t o.dst und, s.h⟩
  | none => none
def effOp (ops : Array Oper) (s : St) (o : Oper) : Option St :=
  match wantedA ops s.t o with
  | some true => match aeff P Γ (ev s.t) s.h o.op with
    | some (v, h) => some ⟨putA s.t o.dst v, h⟩
    | none => none
  | some false => some ⟨putA s.t o.dst und, s.h⟩
  | none => none
def stepOp (ops : Array Oper) (s : St) (o : Oper) : Option St :=
  match kindOf P o.op with
  | 0 => pureOp P ops s o
  | 1 => readOp P ops s.h s o
  | _ => effOp P Γ ops s o
def runOps (ops : Array Oper) : List Oper → St → Option St
  | [], s => some s
  | o :: r, s => match stepOp P Γ ops s o with
    | some s' => runOps ops r s'
    | none => none
def laysB (o : Oper) (n : Nat) : Bool := o.guard.isNone && match o.op with
  | .alloc t => match zeroC P t with
    | some c => AV.unders n c
    | none => false
  | _ => false
def pairOk (s : St) (o1 o2 : Oper) : Bool := laysB P o1 s.h.length && laysB P o2 s.h.length && (match o1.dst, o2.dst with
  | some a, some b => !(a == b)
  | _, _ => false) && AV.unders s.h.length s.t && s.h.all (Blk.under s.h.length)
def runPlan (ops : Array Oper) (h0 : Hp) : Plan → St → Option St
  | .nil, s => some s
  | .pure k p, s => match ops[k]? with
    | some o => (pureOp P ops s o).bind (runPlan ops h0 p)
    | none => none
  | .any k p, s => match ops[k]? with
    | some o => (readOp P ops s.h s o).bind (runPlan ops h0 p)
    | none => none
  | .old k p, s => match ops[k]? with
    | some o => (readOp P ops h0 s o).bind (runPlan ops h0 p)
    | none => none
  | .eff k p, s => match ops[k]? with
    | some o => (effOp P Γ ops s o).bind (runPlan ops h0 p)
    | none => none
  | .two k1 p1 k2 p2 p, s => match ops[k1]?, ops[k2]? with
    | some o1, some o2 => match (effOp P Γ ops s o1).bind (runPlan ops h0 p1), (effOp P Γ ops s o2).bind (runPlan ops h0 p2) with
      | some s1, some s2 => if St.same s1 s2 then runPlan ops h0 p s1 else none
      | _, _ => none
    | _, _ => none
  | .pair k1 k2 p, s => match ops[k1]?, ops[k2]? with
    | some o1, some o2 => if pairOk P s o1 o2 then (effOp P Γ ops s o1).bind fun s1 => (effOp P Γ ops s1 o2).bind (runPlan ops h0 p) else none
    | _, _ => none
def runWay (ops : Array Oper) (y : Road) (s : St) : Option St :=
  match y.lock with
  | none => runPlan P Γ ops [] y.rest s
  | some (fr, p) => match runPlan P Γ ops (oldX (idsOf s.t s.h fr) 0 s.h) p ⟨s.t, lockX (idsOf s.t s.h fr) 0 s.h⟩ with
    | some s1 => if freshOk s1.h s.h.length && (idsOf s.t s.h fr).all (wrAt s1.h) then runPlan P Γ ops [] y.rest ⟨s1.t, mergeX (idsOf s.t s.h fr) 0 s.h s1.h⟩ else none
    | none => none
def textPlan (ops : Array Oper) : Nat → Nat → Plan
  | _, 0 => .nil
  | k, n + 1 => match ops[k]? with
    | some o => match kindOf P o.op with
      | 0 => .pure k (textPlan ops (k + 1) n)
      | 1 => .any k (textPlan ops (k + 1) n)
      | _ => .eff k (textPlan ops (k + 1) n)
    | none => .nil
def wayOf (W : Nat → Option Road) (id : Nat) (ops : Array Oper) : Road := (W id).getD ⟨none, textPlan P ops 0 ops.size⟩
inductive Ex where
  | n
  | x (id : Nat)
  | r
def loopN (f : St → Option (Ex × St)) : Nat → St → Option (Ex × St)
  | 0, _ => none
  | n + 1, s => match f s with
    | some (.n, s') => loopN f n s'
    | r => r
def exec (W : Nat → Option Road) (F : Nat) : Code → St → Option (Ex × St)
  | .skip, s => some (.n, s)
  | .label _, s => some (.n, s)
  | .region id ops draw, s => match (if draw then runWay P Γ ops (wayOf P W id ops) s else runOps P Γ ops ops.toList s) with
    | some s' => some (.n, s')
    | none => none
  | .seq a b, s => match exec W F a s with
    | some (.n, s') => exec W F b s'
    | r => r
  | .cond c x y, s => match ev s.t c with
    | .bo true => exec W F x s
    | .bo false => exec W F y s
    | _ => none
  | .block id c, s => match exec W F c s with
    | some (.x id', s') => if id' = id then some (.n, s') else some (.x id', s')
    | r => r
  | .loop c, s => loopN (exec W F c) F s
  | .exit id, s => some (.x id, s)
  | .ret, s => some (.r, s)
  | .scope c, s => exec W F c s
  | _, _ => none
def resA (s : St) : ResultVar → Option AV
  | .tmp t => some (s.t.getD t und)
  | .cell a t => aload P s.h t (s.t.getD a und)
def resultsA (s : St) : List ResultVar → Option (List AV)
  | [] => some []
  | r :: rs => (resA P s r).bind fun v => (resultsA s rs).map fun vs => v :: vs
def joinA : List AV → AV
  | [v] => v
  | vs => .tu vs
def runFn (W : Nat → Option Road) (F : Nat) (fn : Func) (args : List AV) (h : Hp) : Option (AV × Hp) :=
  match fn.body with
  | some c => match exec P Γ W F c ⟨args ++ List.replicate (fn.ntmps - args.length) und, h⟩ with
    | some (.x _, _) => none
    | some (_, s) => (resultsA P s fn.results.toList).map fun v => (joinA v, s.h)
    | none => none
  | none => none
end

def reachB (ops : Array Oper) (i : Nat) : Nat → Nat → Bool
  | 0, _ => false
  | fuel + 1, d => match ops[d]? with
    | some o => o.after.any fun e => Region.binds .any e && (e.on == i || reachB ops i fuel e.on)
    | none => false
def waitB (ops : Array Oper) (l : Array Bool) (ds : List Nat) (k : Nat) : Bool := ds.all fun d => l.getD d true || reachB ops k ops.size d
def planOk (ops : Array Oper) (A : Bool) (d1 d2 : List Nat) : Plan → Array Bool → Option (Array Bool)
  | .nil, l => some l
  | .pure k p, l => if Region.free .any ops l k && (Region.ready .any ops l).contains k then planOk ops A d1 d2 p (l.setIfInBounds k true) else none
  | .any k p, l => if Region.free .any ops l k && (Region.ready .any ops l).contains k && waitB ops l d1 k && waitB ops l d2 k then planOk ops A d1 d2 p (l.setIfInBounds k true) else none
  | .old k p, l => if A && Region.free .any ops l k && (Region.ready .any ops l).contains k && waitB ops l d2 k then planOk ops A d1 d2 p (l.setIfInBounds k true) else none
  | .eff k p, l => if decide (Region.ready .any ops l = [k]) && (if A then d1.contains k else d2.contains k) then planOk ops A d1 d2 p (l.setIfInBounds k true) else none
  | .two k1 p1 k2 p2 p, l =>
    if decide (Region.ready .any ops l = [k1, k2]) && decide (k1 ≠ k2) && (if A then d1.contains k1 && d1.contains k2 else d2.contains k1 && d2.contains k2) then
      match planOk ops A d1 d2 p1 (l.setIfInBounds k1 true), planOk ops A d1 d2 p2 (l.setIfInBounds k2 true) with
      | some l1, some l2 => if l1 = l2 then planOk ops A d1 d2 p l1 else none
      | _, _ => none
    else none
  | .pair k1 k2 p, l =>
    if decide (Region.ready .any ops l = [k1, k2]) && decide (k1 ≠ k2) && decide (Region.ready .any ops (l.setIfInBounds k1 true) = [k2]) && decide (Region.ready .any ops (l.setIfInBounds k2 true) = [k1]) && (if A then d1.contains k1 && d1.contains k2 else d2.contains k1 && d2.contains k2) then
      planOk ops A d1 d2 p ((l.setIfInBounds k1 true).setIfInBounds k2 true)
    else none
def planLen : Plan → Nat
  | .nil => 0
  | .pure _ p | .any _ p | .old _ p | .eff _ p => planLen p + 1
  | .two _ p1 _ _ p => planLen p1 + 1 + planLen p
  | .pair _ _ p => planLen p + 1 + 1
def planEven : Plan → Bool
  | .nil => true
  | .pure _ p | .any _ p | .old _ p | .eff _ p => planEven p
  | .two _ p1 _ p2 p => planEven p1 && planEven p2 && planLen p1 == planLen p2 && planEven p
  | .pair _ _ p => planEven p
def effsOf : Plan → List Nat
  | .nil => []
  | .pure _ p | .any _ p | .old _ p => effsOf p
  | .eff k p => k :: effsOf p
  | .two k1 p1 k2 p2 p => k1 :: k2 :: (effsOf p1 ++ effsOf p)
  | .pair k1 k2 p => k1 :: k2 :: effsOf p
def wayOk (ops : Array Oper) (y : Road) : Bool :=
  let none0 := Array.replicate ops.size false
  Region.noSelect ops && planEven y.rest && match y.lock with
    | none => planLen y.rest == ops.size && (match planOk ops false [] (effsOf y.rest) y.rest none0 with
      | some l => decide (Region.ready .any ops l = [])
      | none => false)
    | some (_, p) => planEven p && planLen p + planLen y.rest == ops.size && (match planOk ops true (effsOf p) (effsOf y.rest) p none0 with
      | some l => match planOk ops false (effsOf p) (effsOf y.rest) y.rest l with
        | some l => decide (Region.ready .any ops l = [])
        | none => false
      | none => false)
def codeOk (P : Program) (W : Nat → Option Road) : Code → Bool
  | .region id ops draw => !draw || wayOk ops (wayOf P W id ops)
  | .seq a b => codeOk P W a && codeOk P W b
  | .cond _ a b => codeOk P W a && codeOk P W b
  | .block _ c => codeOk P W c
  | .loop c => codeOk P W c
  | .scope c => codeOk P W c
  | _ => true
end Go.Proofs.Ytnfbgfmdjaodgaa.Eng
