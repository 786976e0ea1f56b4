/- tree.Right -/
import Derived.Test.YtokoneddljheaaaXEvery
import Derived.Test.YtokoneddljheaaaXTy
import Derived.Test.YtokoneddljheaaaXEnc
import Derived.Test.YtokoneddljheaaaXPlain
import Derived.Test.YtokoneddljheaaaXSame
import Derived.Test.YtokoneddljheaaaXAbsV
namespace Go.Proofs.Ytokoneddljheaaa
open Go.RowKit

end Go.Proofs.Ytokoneddljheaaa

/- The functions of tree and of the statements' kit, told so: what the abstract walk takes of them: Right, Vertices, Edges; texts compared. -/
set_option linter.unusedSimpArgs false
set_option linter.unusedVariables false
namespace Go.Proofs.Ytokoneddljheaaa
open Go.RowKit

end Go.Proofs.Ytokoneddljheaaa

/- tree.once of any iterator; slices.Values; slices.Index, Contains, told so; a nil slice in a box, seen as an own row without elements. -/
set_option linter.unusedSimpArgs false
set_option linter.unusedVariables false
namespace Go.Proofs.Ytokoneddljheaaa
open Go.RowKit

section
variable {P : Program}
end

/-- texts, one behind the other -/
def encT (l : List ByteArray) : List (List AV) := l.map (fun s => [.v (.string s)])

end Go.Proofs.Ytokoneddljheaaa
