/- tree.pattern, tree.cond, tree.told -/
import Derived.Test.YtokoneddljheaaaXTreeA
import Derived.Test.YtokoneddljheaaaXExprA
import Derived.Test.YtokoneddljheaaaXSame
namespace Go.Proofs.Ytokoneddljheaaa
open Go.RowKit

end Go.Proofs.Ytokoneddljheaaa
