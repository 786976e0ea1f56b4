/- check: all operands of a query, one behind the other (an iterator). -/
import Derived.Test.YtokoneddljheaaaXAbsZ
import Derived.Test.YtokoneddljheaaaXOnceC
import Derived.Test.YtokoneddljheaaaXChkP
import Derived.Test.YtokoneddljheaaaXTy
import Derived.Test.YtokoneddljheaaaXEnc
import Derived.Test.YtokoneddljheaaaXValue
import Derived.Test.YtokoneddljheaaaXPlain
set_option linter.unusedSimpArgs false
set_option linter.unusedVariables false
namespace Go.Proofs.Ytokoneddljheaaa
open Go.RowKit

/-- what is still to come behind i conditions, behind j that are told -/
def opsC (q : Qry) (i : Nat) : List (List AV) := ((q.conds.drop i).flatMap (fun c => [c.left, c.right]) ++ q.ret).map (fun o => [.agg (encO o)])
def opsR (q : Qry) (i : Nat) : List (List AV) := (q.ret.drop i).map (fun o => [.agg (encO o)])

/-! ### a map whose keys are texts -/
def mrows (l : List (ByteArray × Int)) : List (List AV) := l.map (fun p => [.v (.string p.1), .v (.int .i64 p.2)])
end Go.Proofs.Ytokoneddljheaaa

/- The document's names (ref02): the walks. -/
set_option linter.unusedSimpArgs false
set_option linter.unusedVariables false
namespace Go.Proofs.Ytokoneddljheaaa
open Go.RowKit

end Go.Proofs.Ytokoneddljheaaa

/- The document's values (ref05): the walk of Right. Printed by gen_ref05.py. -/
set_option linter.unusedSimpArgs false
set_option linter.unusedVariables false
namespace Go.Proofs.Ytokoneddljheaaa
open Go.RowKit

end Go.Proofs.Ytokoneddljheaaa
