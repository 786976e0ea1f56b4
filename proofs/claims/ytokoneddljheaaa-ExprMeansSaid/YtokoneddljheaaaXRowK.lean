/- Rows: what all of them share: a law's contract made a claim's; readings of arguments. -/
import Derived.Test.YtokoneddljheaaaRows
import Derived.Test.YtokoneddljheaaaXAbsN
import Derived.Test.YtokoneddljheaaaXEnc
import Derived.Test.YtokoneddljheaaaXOpen
import Derived.WalkKit
import Derived.ProofKit
import Derived.OpenShut
namespace Go.Proofs.Ytokoneddljheaaa
open Go.ChangeShapes Go.WideShapes Go.ChangeAt Go.RowKit

/-- a law that holds, of a call that owns nothing of its caller's -/
theorem Call1.to_ret {P : Program} {f : FuncId} {args : List AV} {v : Value} (h : Call1 P f args (.v v)) {w : World} {vargs : Array Value} (hr : RAs (fun _ => True) (fun _ _ => Go.undef) [] w args vargs) :
    Calls P f vargs w (Ret w v) := by
  refine (h.2.2 _ _ w vargs (RO.nil _ _ _ (fun _ _ => trivial) (fun g T cs hg => by cases hg)) hr).mono fun e w' hf => ?_
  obtain ⟨x, nu', o', r, rfl, hm, _, hx, rfl, rfl⟩ := hf
  have e1 := hx.v_eq
  subst e1
  exact ⟨rfl, hm.os, hm.tape, hm.output, hm.size, fun b hb => (hm.keep b hb (owned_nil _ _)).1⟩

section
variable {H : Type} {enc : TypeId × Value → H} {w : World}
end
end Go.Proofs.Ytokoneddljheaaa
