/- The law of what is read back: the forms of its states. -/
import Derived.Test.YtiknpjblmihmkaaDoorNumRd
import Derived.Test.YtiknpjblmihmkaaDoorNumWr
set_option linter.unusedVariables false
set_option linter.unusedSimpArgs false
open Go Go.Proofs.YtiknpjblmihmkaaDoor.Eng Go.RowKit
namespace Go.Proofs.YtiknpjblmihmkaaDoor.NumRun
/-- A text in a row. -/
def Get.rstr (d k : Nat) : Get ByteArray := ⟨fun s K => match s.t.getD d und with
  | .p id _ => match s.h.getD id .dead with
    | .cells c _ => match c.getD k und with
      | .s n => K n
      | _ => False
    | _ => False
  | _ => False, fun s K h => by
    split at h
    · split at h
      · split at h
        · exact ⟨_, h⟩
        · exact h.elim
      · exact h.elim
    · exact h.elim⟩
abbrev S6a (l y : AV) (hb : Hp) (b s : ByteArray) (m : AV) (i : Int) (more : Hp) : St := ⟨[l, y, .s b, .bad, .bad, .bad, .bad, .s s, m, .i .i64 i] ++ bads 164, hb ++ more⟩
abbrev S6b (l y : AV) (hb : Hp) (b s : ByteArray) (m : AV) (r : Nat) (i : Int) (more : Hp) : St := ⟨[l, y, .s b, .bad, .bad, .bad, .bad, .s s, m, .bad, .bad, .bad, .bad, .bad, .p r 0, .i .i64 i] ++ bads 158, hb ++ more⟩
abbrev S6c (hb : Hp) (s : ByteArray) (r : Nat) (i : Int) (more : Hp) : St := ⟨[.bad, .bad, .bad, .bad, .bad, .bad, .bad, .s s, .bad, .bad, .bad, .bad, .bad, .bad, .bad, .bad, .bad, .bad, .bad, .p r 0, .i .i64 i] ++ bads 153, hb ++ more⟩
def head6 (l y : AV) (hb : Hp) (n0 n1 : Nat) (b : ByteArray) : Nat → Option Head := fun r => match r with
  | 8 => some (Head.two (nilAt 8) (Get.and (Get.str 7) (Get.int 9)) (fun q => S6a l y hb b q.1 .sn q.2 [])
      (Get.and (Get.str 7) (Get.and (Get.sl 8) (Get.int 9))) (fun q => S6a l y hb b q.1 (.sl n0 0 q.2.1.1 1 none) q.2.2 [.cells q.2.1.2 true]))
  | 23 => some (Head.two (nilAt 8) (Get.and (Get.str 7) (Get.and (Get.rstr 14 0) (Get.and (Get.rint 14 1) (Get.int 15)))) (fun q => S6b l y hb b q.1 .sn n0 q.2.2.2 [.cells [.s q.2.1, .i .i64 q.2.2.1, .pn] true])
      (Get.and (Get.str 7) (Get.and (Get.sl 8) (Get.and (Get.rstr 14 0) (Get.and (Get.rint 14 1) (Get.int 15))))) (fun q => S6b l y hb b q.1 (.sl n0 0 q.2.1.1 1 none) n1 q.2.2.2.2 [.cells q.2.1.2 true, .cells [.s q.2.2.1, .i .i64 q.2.2.2.1, .pn] true]))
  | 42 => some (Head.one (Get.and (Get.str 7) (Get.and (Get.rstr 19 0) (Get.and (Get.rint 19 1) (Get.int 20)))) (fun q => S6c hb q.1 n0 q.2.2.2 [.cells [.s q.2.1, .i .i64 q.2.2.1, .pn] true]))
  | _ => none
noncomputable abbrev T6 (F : Fs) (G : Int → Int → Bool) (B : Int → Int → ByteArray) (Cd : Int → Int → Int) : TEnv :=
  tcons 10 (tconst (.bo true)) (tcons 15 (tbig G B Cd) (tcons 18 (tinl P tnil noW Go.Proofs.Tryd.f18) (tcons 28 (tinl P tnil noW Go.Proofs.Tryd.f28)
  (tcons 19 (tinl P (tcons 32 (tNum F) tnil) noW Go.Proofs.Tryd.f19) (tcons 20 (tinl P (tcons 32 (tNum F) tnil) noW Go.Proofs.Tryd.f20) (tcons 21 (tinl P (tcons 32 (tNum F) tnil) noW Go.Proofs.Tryd.f21)
  (tcons 25 (trest F.Y F.Z) tnil)))))))
end Go.Proofs.YtiknpjblmihmkaaDoor.NumRun
