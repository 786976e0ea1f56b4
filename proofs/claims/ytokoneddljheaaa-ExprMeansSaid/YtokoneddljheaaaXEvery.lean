/- tree.every: whether something is so of all patterns, conditions, operands. -/
import Derived.Test.YtokoneddljheaaaXTreeB
import Derived.Test.YtokoneddljheaaaXSame
namespace Go.Proofs.Ytokoneddljheaaa
open Go.RowKit

def idxF {α : Type} (q : α → Bool) (xs : List α) : Int := match xs.findIdx? q with | some k => k | none => -1

/-- a function value f (with what it has captured) tells q of each element, in whatever world behind w -/
def ElemPat (f : FuncId) (cap : List Value) (q : Pat → Bool) (w : World) : Prop := ∀ (x : Pat) (k : Int) (s : ByteArray) (l : List Ex) (v : Value) (W : World), Below w.heap.size w W → x.ok → x.expr = .mk k s l → RdExs W l v →
  Calls Try.prog f (.agg #[.string x.frm, .string x.to, .bool x.path, .string x.label, .string x.name, .int .i64 k, .string s, v] :: cap).toArray W (Ret W (.bool (q x)))
theorem ElemPat.later {f : FuncId} {cap : List Value} {q : Pat → Bool} {w w' : World} (h : ElemPat f cap q w) (hb : Below w.heap.size w w') : ElemPat f cap q w' :=
  fun x k s l v W hW => h x k s l v W (below_step hb hW)

/-- a function value f (with what it has captured) tells q of each element, in whatever world behind w -/
def ElemCnd (f : FuncId) (cap : List Value) (q : Cnd → Bool) (w : World) : Prop := ∀ (x : Cnd) (W : World), Below w.heap.size w W → x.ok →
  Calls Try.prog f (.agg #[.int .i64 x.op, .int .i64 x.left.kind, .string x.left.name, .string x.left.key, .int .i64 x.left.val.kind, .int .i64 x.left.val.num, .string x.left.val.text, .int .i64 x.right.kind, .string x.right.name, .string x.right.key, .int .i64 x.right.val.kind, .int .i64 x.right.val.num, .string x.right.val.text] :: cap).toArray W (Ret W (.bool (q x)))
theorem ElemCnd.later {f : FuncId} {cap : List Value} {q : Cnd → Bool} {w w' : World} (h : ElemCnd f cap q w) (hb : Below w.heap.size w w') : ElemCnd f cap q w' :=
  fun x W hW => h x W (below_step hb hW)

/-- a function value f (with what it has captured) tells q of each element, in whatever world behind w -/
def ElemOpd (f : FuncId) (cap : List Value) (q : Opd → Bool) (w : World) : Prop := ∀ (x : Opd) (W : World), Below w.heap.size w W → x.ok →
  Calls Try.prog f (.agg #[.int .i64 x.kind, .string x.name, .string x.key, .int .i64 x.val.kind, .int .i64 x.val.num, .string x.val.text] :: cap).toArray W (Ret W (.bool (q x)))
theorem ElemOpd.later {f : FuncId} {cap : List Value} {q : Opd → Bool} {w w' : World} (h : ElemOpd f cap q w) (hb : Below w.heap.size w w') : ElemOpd f cap q w' :=
  fun x W hW => h x W (below_step hb hW)

end Go.Proofs.Ytokoneddljheaaa
