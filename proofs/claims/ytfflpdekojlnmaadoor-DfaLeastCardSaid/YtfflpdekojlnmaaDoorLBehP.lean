/- tree.Vertices$1, tree.Edges$1: iterators over the names of a query's patterns. -/

import Derived.Test.YtfflpdekojlnmaaDoorProg
import Derived.Test.YtfflpdekojlnmaaDoorLRange
import Derived.Test.YtfflpdekojlnmaaDoorLBase2
import Derived.Maps.AppendAt
import Derived.Test.YtfflpdekojlnmaaDoorLValue
import Derived.Test.YtfflpdekojlnmaaDoorLLang
import Derived.Lib.SlicesCompact
/-! tree.Vertices$1, tree.Edges$1: iterators over the names of a query's patterns. -/
namespace Go.Proofs.YtfflpdekojlnmaaDoor
open Go.RowKit Go.Shelf

attribute [local go_sem] Oper.semAt_some

def vnames (l : List Pat) : List ByteArray := l.flatMap (fun p => [p.frm, p.to])

end Go.Proofs.YtfflpdekojlnmaaDoor

/-! tree.once: each name once, as it comes first. -/
namespace Go.Proofs.YtfflpdekojlnmaaDoor
open Go.RowKit Go.Shelf

attribute [local go_sem] Oper.semAt_some

def onceStep (out : List ByteArray) (s : ByteArray) : List ByteArray := if hasB out s then out else out ++ [s]
def onceL (xs : List ByteArray) : List ByteArray := xs.foldl onceStep []

theorem infoStr : (Tryd.prog.info? 9).map (fun i => (i.zero, i.size, i.bytes)) = some (some (.string ⟨#[]⟩), 1, 16) := by kernel_rfl

theorem rdStrs_own {w : World} {base : Nat} {e : TypeId} {v : Value} {xs : List ByteArray} (h : w.ownsRow base e 1 v xs.length (xs.map Value.string)) : RdStrs w xs v := by
 obtain ⟨_, h | ⟨g, cap, cur, rfl, _, hg, h1, h2, h3, h4⟩⟩ := h
 ·exact .inl ⟨.inl h.1, List.length_eq_zero_iff.1 h.2⟩
 ·refine .inr ⟨g, 0, cap, rfl, h1, h2, fun i x hx => ⟨[.string x], rfl, ?_, trivial⟩⟩
  rw [cell_of_block hg]
  have hi := (List.getElem?_eq_some_iff.1 hx).1
  have : (cur.toList.take (xs.length * 1))[i]? = some (.string x) := by rw [h4]; simp [hx]
  rw [List.getElem?_take_of_lt (by omega)] at this
  simpa using this

end Go.Proofs.YtfflpdekojlnmaaDoor

/-! tree.Vertices, tree.Edges: their contracts. -/
namespace Go.Proofs.YtfflpdekojlnmaaDoor
open Go.RowKit Go.Shelf

attribute [local go_sem] Oper.semAt_some

theorem own_block {w : World} {base : Nat} {e : TypeId} {z : Nat} {v : Value} {n : Nat} {xs : List Value} (h : w.ownsRow base e z v n xs) : ∀ b off n c, v = .slice (some ⟨b, off, none⟩) n c → base ≤ b := by
 intro b off m c hv
 rcases h.2 with ⟨rfl, _⟩ | ⟨g, cap, cur, rfl, hg, _⟩
 ·cases hv
 ·cases hv; exact hg

end Go.Proofs.YtfflpdekojlnmaaDoor

namespace Go.Proofs.YtfflpdekojlnmaaDoor
open Go.RowKit

theorem toList_inj {s t : ByteArray} : (s.toList == t.toList) = true ↔ s = t := by
 refine ⟨fun h => ?_, fun h => by subst h; simp⟩
 have h := eq_of_beq h
 rw [ByteArray.toList_eq, ByteArray.toList_eq] at h
 obtain ⟨⟨l⟩⟩ := s
 obtain ⟨⟨m⟩⟩ := t
 have h : l = m := h
 subst h; rfl
end Go.Proofs.YtfflpdekojlnmaaDoor

set_option linter.unusedSimpArgs false
set_option linter.unusedVariables false
namespace Go.Proofs.YtfflpdekojlnmaaDoor
open Go.RowKit

def qOps (q : Qry) : List Opd := q.conds.flatMap (fun c => [c.left, c.right]) ++ q.ret
def kindO (o : Opd) : Int := if o.kind == 1 then 2 else if o.kind == 3 then o.val.kind else 0

def nmStep (vs : List ByteArray) : Option (List ByteArray) → Pat → Option (List ByteArray)
 | none, _ => none
 | some ns, p => if noB p.name then some ns else if hasB ns p.name || hasB vs p.name then none else some (ns ++ [p.name])
def nmL (vs : List ByteArray) (ps : List Pat) : Option (List ByteArray) := ps.foldl (nmStep vs) (some [])

/-! ### a map whose keys are texts -/
def kmap (vs ns : List ByteArray) : List (ByteArray × Int) := vs.map (·, 1) ++ ns.map (·, 2)

def opKnown (vs ns : List ByteArray) (o : Opd) : Bool := if o.kind == 1 then hasB vs o.name else if o.kind == 2 then hasB ns o.name else true
def typeBad (c : Cnd) : Bool := kindO c.left != 0 && kindO c.right != 0 && kindO c.left != kindO c.right
def chkQ (q : Qry) : Int := if qryRight q then
  match nmL (onceL (vnames q.pats)) q.pats with
  | none => 9
  | some ns => if (qOps q).all (opKnown (onceL (vnames q.pats)) ns) then (if q.conds.any typeBad then 10 else 0) else 8
 else 2

def NoDb (l : List ByteArray) : Prop := ∀ k (h : k < l.length), hasB (l.take k) l[k] = false
end Go.Proofs.YtfflpdekojlnmaaDoor

namespace Go.Proofs.YtfflpdekojlnmaaDoor
open Go.RowKit

def renN (a b : List ByteArray) (s : ByteArray) : ByteArray := if idxB a s < 0 then s else b.getD (idxB a s).toNat ⟨#[]⟩
def mapO (f : ByteArray → ByteArray) (x : Opd) : Opd := if x.kind = 1 ∨ x.kind = 2 then { x with name := f x.name } else x

/-! ### names that stay unlike -/
structure Inj (f : ByteArray → ByteArray) : Prop where
 inj : ∀ s t, f s = f t → s = t
 free : ∀ s, freeB (f s) = freeB s
 no : ∀ s, noB (f s) = noB s

/-! ### the order does not matter -/
def rot {α : Type} (k : Nat) (l : List α) : List α := l.drop k ++ l.take k
/-! ### where a name stands -/

def perA : List ByteArray := [⟨#[97]⟩, ⟨#[98]⟩, ⟨#[99]⟩, ⟨#[100]⟩, ⟨#[101]⟩, ⟨#[102]⟩, ⟨#[103]⟩]
end Go.Proofs.YtfflpdekojlnmaaDoor

namespace Go.Proofs.YtfflpdekojlnmaaDoor
open Go.RowKit

def ordSame (p q : Pat) : Bool := if seqb p.frm q.frm && seqb p.to q.to && p.path == q.path then (if p.path then exSame p.expr q.expr else noB p.name && noB q.name && seqb p.label q.label) else false
def aheadB (ps : List Pat) (k : Nat) : Bool := match ps[k]? with
 | some p => (ps.take k).any (fun a => ordSame a p)
 | none => false
def nrmF (ps : List Pat) (i : Nat) : List Nat := ((List.range ps.length).drop i).filter (fun k => !aheadB ps k)
def nrmL (ps : List Pat) : List Nat := nrmF ps 0

def calledL (p : Pat) : List ByteArray := p.frm :: p.to :: (if !p.path && !noB p.name then [p.name] else [])
def namesStep (ps : List Pat) (out : List ByteArray) (k : Int) : List ByteArray := if 0 ≤ k ∧ k < ps.length then (match ps[k.toNat]? with | some p => (calledL p).foldl onceStep out | none => out) else out
def namesL (ps : List Pat) (ks : List Int) : List ByteArray := ks.foldl (namesStep ps) []
def oneB (b : Bool) : Nat := if b then 1 else 0
def endsN (ps : List Pat) (names : List ByteArray) (k : Int) : Nat := if 0 ≤ k ∧ k < ps.length then (match ps[k.toNat]? with | some p => oneB (hasB names p.frm) + oneB (hasB names p.to) | none => 0) else 0
def pathAt (ps : List Pat) (k : Nat) : Bool := match ps[k]? with
 | some p => p.path
 | none => false
def rankN (ps : List Pat) (names : List ByteArray) (k : Nat) : Int := 2 * (endsN ps names k : Int) + (if pathAt ps k then 0 else 1)
def maxF (r : Nat → Int) : List Nat → Nat → Nat
 | [], m => m
 | k :: l, m => maxF r l (if r k - r m > 0 then k else m)

def toI (l : List Nat) : List Int := l.map (fun k : Nat => (k : Int))
def nextK (ps : List Pat) (out : List Nat) : List Nat → Nat
 | [] => 0
 | a :: l => maxF (rankN ps (namesL ps (toI out))) l a
def ofL (ps : List Pat) : Nat → List Nat → List Nat → List Nat
 | 0, out, _ => out
 | n + 1, out, left => if left.isEmpty then out else ofL ps n (out ++ [nextK ps out left]) (left.filter (fun k => k != nextK ps out left))
structure OrdOk (ps : List Pat) (out left l : List Nat) : Prop where
 len : l.length = out.length + left.length
 pre : l.take out.length = out
 mem : ∀ k, k ∈ l → k ∈ out ∨ k ∈ left
 nod : l.Nodup
 best : ∀ (i k : Nat) (hi : i < l.length) (hk : k < l.length), out.length ≤ i → i < k → rankN ps (namesL ps (toI (l.take i))) l[k] ≤ rankN ps (namesL ps (toI (l.take i))) l[i] ∧ (rankN ps (namesL ps (toI (l.take i))) l[k] = rankN ps (namesL ps (toI (l.take i))) l[i] → l[i] < l[k])
def ordL (ps : List Pat) : List Nat := ofL ps (nrmL ps).length [] (nrmL ps)
/-! ### names -/
end Go.Proofs.YtfflpdekojlnmaaDoor

namespace Go.Proofs.YtfflpdekojlnmaaDoor
open Go.RowKit

theorem rise_ext : ∀ {a b : List Nat}, a.Pairwise (· < ·) → b.Pairwise (· < ·) → (∀ j, j ∈ a ↔ j ∈ b) → a = b
 | [], [], _, _, _ => rfl
 | [], y :: b, _, _, h => by have := (h y).2 List.mem_cons_self; simp at this
 | x :: a, [], _, _, h => by have := (h x).1 List.mem_cons_self; simp at this
 | x :: a, y :: b, ha, hb, h => by
  rw [List.pairwise_cons] at ha hb
  have hxy : x = y := by
   rcases List.mem_cons.1 ((h x).1 List.mem_cons_self) with e | e
   ·exact e
   ·rcases List.mem_cons.1 ((h y).2 List.mem_cons_self) with e2 | e2
    ·exact e2.symm
    ·have h1 := hb.1 x e
     have h2 := ha.1 y e2
     omega
  subst hxy
  refine congrArg (x :: ·) (rise_ext ha.2 hb.2 (fun j => ?_))
  have := h j
  simp only [List.mem_cons] at this
  constructor
  ·intro hj
   rcases this.1 (.inr hj) with e | e
   ·have := ha.1 j hj; omega
   ·exact e
  ·intro hj
   rcases this.2 (.inr hj) with e | e
   ·have := hb.1 j hj; omega
   ·exact e
def srt (l : List Nat) : List Nat := (List.range (l.foldr max 0 + 1)).filter (fun j => l.contains j)

end Go.Proofs.YtfflpdekojlnmaaDoor

namespace Go.Proofs.YtfflpdekojlnmaaDoor
open Go.RowKit

noncomputable def bh (w : List ByteArray) (L : List ByteArray → Prop) (fr : List Nat) : List Nat := (List.range (w.length + 1)).filter (fun j => @decide (∃ i, i ∈ fr ∧ Tk L w i j) (Classical.propDecidable _))

def labF (w : List ByteArray) (s : ByteArray) (fr : List Nat) : List Nat := (fr.filter (fun k => decide (w[k]? = some s))).map (· + 1)
structure AgI (w : List ByteArray) (L : List ByteArray → Prop) (fr out : List Nat) : Prop where
 rise : out.Pairwise (· < ·)
 le : ∀ j, j ∈ out → j ≤ w.length
 sub : ∀ j, j ∈ fr → j ∈ out
 by' : ∀ j, j ∈ out → ∃ i, i ∈ fr ∧ Tk (StarL L) w i j
end Go.Proofs.YtfflpdekojlnmaaDoor
