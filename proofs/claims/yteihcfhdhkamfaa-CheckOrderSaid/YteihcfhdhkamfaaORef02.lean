/- The document's names (ref02): the walks. -/
import Derived.Test.YteihcfhdhkamfaaOTy
import Derived.Test.YteihcfhdhkamfaaOEnc
import Derived.Test.YteihcfhdhkamfaaOValue
set_option linter.unusedSimpArgs false
set_option linter.unusedVariables false
namespace Go.Proofs.Yteihcfhdhkamfaa
open Go.RowKit

end Go.Proofs.Yteihcfhdhkamfaa
