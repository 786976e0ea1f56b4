/- The document's names (ref02): the walks. -/
import Derived.Test.YteihcfhdhkamfaaBTy
import Derived.Test.YteihcfhdhkamfaaBEnc
import Derived.Test.YteihcfhdhkamfaaBValue
set_option linter.unusedSimpArgs false
set_option linter.unusedVariables false
namespace Go.Proofs.Yteihcfhdhkamfaa
open Go.RowKit

end Go.Proofs.Yteihcfhdhkamfaa
