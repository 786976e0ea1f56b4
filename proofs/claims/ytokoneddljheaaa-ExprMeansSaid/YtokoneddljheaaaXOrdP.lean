/- order, in plain Lean: which patterns are one, the normal places, the names that are bound, the order. -/
import Derived.Test.YtokoneddljheaaaXRenP
set_option linter.unusedSimpArgs false
set_option linter.unusedVariables false
namespace Go.Proofs.Ytokoneddljheaaa
open Go.RowKit

/-- two patterns are one -/
def ordSame (p q : Pat) : Bool := if seqb p.frm q.frm && seqb p.to q.to && p.path == q.path then (if p.path then exSame p.expr q.expr else noB p.name && noB q.name && seqb p.label q.label) else false
/-- a pattern is one with one ahead -/
def aheadB (ps : List Pat) (k : Nat) : Bool := match ps[k]? with
  | some p => (ps.take k).any (fun a => ordSame a p)
  | none => false
/-- the normal places, from one on -/
def nrmF (ps : List Pat) (i : Nat) : List Nat := ((List.range ps.length).drop i).filter (fun k => !aheadB ps k)
def nrmL (ps : List Pat) : List Nat := nrmF ps 0

/-- the names that a pattern binds -/
def calledL (p : Pat) : List ByteArray := p.frm :: p.to :: (if !p.path && !noB p.name then [p.name] else [])
def namesStep (ps : List Pat) (out : List ByteArray) (k : Int) : List ByteArray := if 0 ≤ k ∧ k < ps.length then (match ps[k.toNat]? with | some p => (calledL p).foldl onceStep out | none => out) else out
/-- the names that are bound behind places -/
def namesL (ps : List Pat) (ks : List Int) : List ByteArray := ks.foldl (namesStep ps) []
def oneB (b : Bool) : Nat := if b then 1 else 0
/-- how many ends of a pattern are among names -/
def endsN (ps : List Pat) (names : List ByteArray) (k : Int) : Nat := if 0 ≤ k ∧ k < ps.length then (match ps[k.toNat]? with | some p => oneB (hasB names p.frm) + oneB (hasB names p.to) | none => 0) else 0
def pathAt (ps : List Pat) (k : Nat) : Bool := match ps[k]? with
  | some p => p.path
  | none => false
/-- which place is taken rather -/
def rankN (ps : List Pat) (names : List ByteArray) (k : Nat) : Int := 2 * (endsN ps names k : Int) + (if pathAt ps k then 0 else 1)
/-- the first of the greatest -/
def maxF (r : Nat → Int) : List Nat → Nat → Nat
  | [], m => m
  | k :: l, m => maxF r l (if r k - r m > 0 then k else m)

def toI (l : List Nat) : List Int := l.map (fun k : Nat => (k : Int))
/-- what is taken next -/
def nextK (ps : List Pat) (out : List Nat) : List Nat → Nat
  | [] => 0
  | a :: l => maxF (rankN ps (namesL ps (toI out))) l a
/-- the order, so many steps on -/
def ofL (ps : List Pat) : Nat → List Nat → List Nat → List Nat
  | 0, out, _ => out
  | n + 1, out, left => if left.isEmpty then out else ofL ps n (out ++ [nextK ps out left]) (left.filter (fun k => k != nextK ps out left))
/-- what the order is like, from a state on -/
structure OrdOk (ps : List Pat) (out left l : List Nat) : Prop where
  len : l.length = out.length + left.length
  pre : l.take out.length = out
  mem : ∀ k, k ∈ l → k ∈ out ∨ k ∈ left
  nod : l.Nodup
  best : ∀ (i k : Nat) (hi : i < l.length) (hk : k < l.length), out.length ≤ i → i < k → rankN ps (namesL ps (toI (l.take i))) l[k] ≤ rankN ps (namesL ps (toI (l.take i))) l[i] ∧ (rankN ps (namesL ps (toI (l.take i))) l[k] = rankN ps (namesL ps (toI (l.take i))) l[i] → l[i] < l[k])
/-- the order of a query -/
def ordL (ps : List Pat) : List Nat := ofL ps (nrmL ps).length [] (nrmL ps)
/-! ### names -/
end Go.Proofs.Ytokoneddljheaaa
