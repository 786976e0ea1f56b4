/- The document's values (ref05): the walk of Right. Printed by gen_ref05.py. -/
import Derived.Test.YteihcfhdhkamfaaBRef02
import Derived.Test.YteihcfhdhkamfaaBPlain
set_option linter.unusedSimpArgs false
set_option linter.unusedVariables false
namespace Go.Proofs.Yteihcfhdhkamfaa
open Go.RowKit

end Go.Proofs.Yteihcfhdhkamfaa
