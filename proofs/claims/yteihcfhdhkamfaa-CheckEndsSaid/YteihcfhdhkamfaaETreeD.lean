/- has: is a text one of some? tree.Size. -/
import Derived.Test.YteihcfhdhkamfaaEExprA
import Derived.Test.YteihcfhdhkamfaaESize11
import Derived.StillTailTactics
namespace Go.Proofs.Yteihcfhdhkamfaa
open Go.RowKit

theorem seqb_comm (a b : ByteArray) : seqb a b = seqb b a := by
  unfold seqb; exact Bool.eq_iff_iff.2 (by rw [beq_iff_eq, beq_iff_eq]; exact eq_comm)

def pathParts (p : Pat) : Nat := if p.path then (exParts p.expr).length else 0
def qrySize (q : Qry) : Nat := q.pats.length + q.conds.length + q.ret.length + (q.pats.map pathParts).sum

end Go.Proofs.Yteihcfhdhkamfaa
