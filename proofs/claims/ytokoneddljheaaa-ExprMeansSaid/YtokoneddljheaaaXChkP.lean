/- check, in plain Lean: which names stand for vertices, which for edges; why a query may not be asked. -/
import Derived.Test.YtokoneddljheaaaXPlain
set_option linter.unusedSimpArgs false
set_option linter.unusedVariables false
namespace Go.Proofs.Ytokoneddljheaaa
open Go.RowKit

/-- all operands -/
def qOps (q : Qry) : List Opd := q.conds.flatMap (fun c => [c.left, c.right]) ++ q.ret
/-- what an operand is known to be -/
def kindO (o : Opd) : Int := if o.kind == 1 then 2 else if o.kind == 3 then o.val.kind else 0

/-- names of edges, as they come; none: something stands for two things -/
def nmStep (vs : List ByteArray) : Option (List ByteArray) → Pat → Option (List ByteArray)
  | none, _ => none
  | some ns, p => if noB p.name then some ns else if hasB ns p.name || hasB vs p.name then none else some (ns ++ [p.name])
def nmL (vs : List ByteArray) (ps : List Pat) : Option (List ByteArray) := ps.foldl (nmStep vs) (some [])

/-! ### a map whose keys are texts -/
def mget (l : List (ByteArray × Int)) (s : ByteArray) : Option Int := (l.find? (fun p => seqb s p.1)).map Prod.snd
/-- what stands for what -/
def kmap (vs ns : List ByteArray) : List (ByteArray × Int) := vs.map (·, 1) ++ ns.map (·, 2)

/-- an operand stands for something -/
def opKnown (vs ns : List ByteArray) (o : Opd) : Bool := if o.kind == 1 then hasB vs o.name else if o.kind == 2 then hasB ns o.name else true
def typeBad (c : Cnd) : Bool := kindO c.left != 0 && kindO c.right != 0 && kindO c.left != kindO c.right
/-- why a query may not be asked -/
def chkQ (q : Qry) : Int := if qryRight q then
    match nmL (onceL (vnames q.pats)) q.pats with
    | none => 9
    | some ns => if (qOps q).all (opKnown (onceL (vnames q.pats)) ns) then (if q.conds.any typeBad then 10 else 0) else 8
  else 2

theorem seqb_iff {s t : ByteArray} : seqb s t = true ↔ s = t := toList_inj
theorem hasB_iff {l : List ByteArray} {s : ByteArray} : hasB l s = true ↔ s ∈ l := by
  rw [hasB, List.any_eq_true]
  constructor
  · rintro ⟨x, h1, h2⟩; rw [seqb_iff.1 h2]; exact h1
  · intro h; exact ⟨s, h, seqb_iff.2 rfl⟩
/-- no text twice -/
def NoDb (l : List ByteArray) : Prop := ∀ k (h : k < l.length), hasB (l.take k) l[k] = false
end Go.Proofs.Ytokoneddljheaaa
