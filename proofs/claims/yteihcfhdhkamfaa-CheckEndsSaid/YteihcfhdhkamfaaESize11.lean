/- kinescopelaw11.exprSize, kinescopelaw11.size: how many parts a query has, as far as 401. -/
import Derived.Test.YteihcfhdhkamfaaProg
import Derived.Test.YteihcfhdhkamfaaEBase2
namespace Go.Proofs.Yteihcfhdhkamfaa
open Go.RowKit

def ExprSizeC11 (x : Ex) : Prop := ∀ (deep : Nat) (cx : List Value) (w : World), RdEx w x cx → deep ≤ 61 → Calls Try.prog 49 #[.agg cx.toArray, .int .i64 deep] w (Ret w (.int .i64 (szE x deep : Nat)))

end Go.Proofs.Yteihcfhdhkamfaa
