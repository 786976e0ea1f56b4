/- kinescopelaw14.exprSize, kinescopelaw14.size: how many parts a query has, as far as 401. -/
import Derived.Test.YtokoneddljheaaaProg
import Derived.Test.YtokoneddljheaaaABase2
namespace Go.Proofs.Ytokoneddljheaaa
open Go.RowKit

end Go.Proofs.Ytokoneddljheaaa
