/- kinescopekit.SameExpr, SameExprs: they tell whether two expressions are the same. -/
import Derived.Test.YtokoneddljheaaaProg
import Derived.Test.YtokoneddljheaaaXBase
import Derived.StillTailTactics
import Derived.Test.YtokoneddljheaaaXTreeA
import Derived.Test.YtokoneddljheaaaXBase2

/-! kinescopekit.SameExpr, SameExprs: they tell whether two expressions are the same. -/
namespace Go.Proofs.Ytokoneddljheaaa
open Go.RowKit

end Go.Proofs.Ytokoneddljheaaa

/-! Loops that hold two slices against each other, element by element: texts, conditions, operands (kinescopekit.Same.., slices.Equal). -/
namespace Go.Proofs.Ytokoneddljheaaa
open Go.RowKit

end Go.Proofs.Ytokoneddljheaaa

/-! Two patterns held against each other; rows of patterns (kinescopekit). -/
namespace Go.Proofs.Ytokoneddljheaaa
open Go.RowKit

def SamePatternC (f : FuncId) : Prop := ∀ (x y : Pat) (k1 : Int) (s1 : ByteArray) (l1 : List Ex) (v1 : Value) (k2 : Int) (s2 : ByteArray) (l2 : List Ex) (v2 : Value) (w : World),
  x.expr = .mk k1 s1 l1 → RdExs w l1 v1 → y.expr = .mk k2 s2 l2 → RdExs w l2 v2 →
  Calls Try.prog f #[.agg #[.string x.frm, .string x.to, .bool x.path, .string x.label, .string x.name, .int .i64 k1, .string s1, v1], .agg #[.string y.frm, .string y.to, .bool y.path, .string y.label, .string y.name, .int .i64 k2, .string s2, v2]] w (Ret w (.bool (patSame x y)))

end Go.Proofs.Ytokoneddljheaaa

/-! expr.Same, tree.samePattern, tree.Same tell what kinescopekit.Same.. tells. -/
namespace Go.Proofs.Ytokoneddljheaaa
open Go.RowKit

def XSameC (x : Ex) : Prop := ∀ (y : Ex) (cx cy : List Value) (w : World), RdEx w x cx → RdEx w y cy →
  Calls Try.prog 34 #[.agg cx.toArray, .agg cy.toArray] w (Ret w (.bool (exSame x y)))

end Go.Proofs.Ytokoneddljheaaa

/-! Two queries held against each other: kinescopekit.SameQuery, tree.Same. -/
namespace Go.Proofs.Ytokoneddljheaaa
open Go.RowKit

end Go.Proofs.Ytokoneddljheaaa
