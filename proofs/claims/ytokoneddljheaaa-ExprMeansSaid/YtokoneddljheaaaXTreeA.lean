/- '==' and '!=' on the plain structs: cell by cell. -/
import Derived.Test.YtokoneddljheaaaProg
import Derived.Test.YtokoneddljheaaaXBase
import Derived.Test.YtokoneddljheaaaXValue
namespace Go.Proofs.Ytokoneddljheaaa
open Go.RowKit

end Go.Proofs.Ytokoneddljheaaa

/- tree.between, tree.Operand -/
namespace Go.Proofs.Ytokoneddljheaaa
open Go.RowKit

end Go.Proofs.Ytokoneddljheaaa
