/- The document's names (ref02): the walks. -/
import Derived.Test.YtokoneddljheaaaATy
import Derived.Test.YtokoneddljheaaaAEnc
import Derived.Test.YtokoneddljheaaaAValue
set_option linter.unusedSimpArgs false
set_option linter.unusedVariables false
namespace Go.Proofs.Ytokoneddljheaaa
open Go.RowKit

end Go.Proofs.Ytokoneddljheaaa
