/- Which package variables are laid, with what they hold. -/
import Derived.Attr
import Derived.WalkKit
set_option linter.unusedSimpArgs false
set_option linter.unusedVariables false
namespace Go.Proofs.YtldnlbcibmmbbaaGreat
attribute [go_sem_proc] Nat.reduceAdd Nat.reduceSub Nat.reduceMul Nat.reduceLeDiff Nat.reduceEqDiff Nat.reduceLT Int.reduceToNat reduceCtorEq Int.reduceLE Int.reduceLT Int.reduceNeg Int.reduceEq Int.reduceBEq Int.reduceBNe
attribute [go_sem_proc ↓] reduceIte
/-- the variables that are laid: none here -/ def tZ (_:Nat):Option (TypeId×Array Value):=none
theorem zo (g:Nat) (T:TypeId) (cs:Array Value) (h:tZ g=some (T,cs)): ∀(i:Nat) x,cs[i]? = some x→x.oneCell'=true:=by cases h
end Go.Proofs.YtldnlbcibmmbbaaGreat
