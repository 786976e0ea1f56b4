/- check.names: which names stand for vertices, which for edges: the walk. -/
import Derived.Test.YtokoneddljheaaaXRef05
import Derived.Test.YtokoneddljheaaaXAbsZ
set_option linter.unusedSimpArgs false
set_option linter.unusedVariables false
namespace Go.Proofs.Ytokoneddljheaaa
open Go.RowKit

@[go_sem] theorem wf_mrows (n : Nat) (l : List (ByteArray × Int)) : wfR n (mrows l) = true := wfR_map _ (fun _ => rfl) l
/-- what names tells -/
def nmR : Option (List ByteArray) → AV
  | none => .tup [.v (.map none), .v (.bool false)]
  | some _ => .tup [.vec 1 0, .v (.bool true)]
def nmO (vs : List ByteArray) : Option (List ByteArray) → List (Option AObj)
  | none => []
  | some ns => [none, some ⟨63, 0, false, mrows (kmap vs ns)⟩]

end Go.Proofs.Ytokoneddljheaaa

/- check.Query: why a query may not be asked: the walk. -/
set_option linter.unusedSimpArgs false
set_option linter.unusedVariables false
namespace Go.Proofs.Ytokoneddljheaaa
open Go.RowKit

end Go.Proofs.Ytokoneddljheaaa
