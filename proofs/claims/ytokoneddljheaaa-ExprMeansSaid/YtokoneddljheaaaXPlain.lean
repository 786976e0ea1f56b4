/- tree.Vertices$1, tree.Edges$1: iterators over the names of a query's patterns. -/

import Derived.Test.YtokoneddljheaaaProg
import Derived.Test.YtokoneddljheaaaXRange
import Derived.Test.YtokoneddljheaaaXBase2
import Derived.Maps.AppendAt
import Derived.Test.YtokoneddljheaaaXValue
/-! tree.Vertices$1, tree.Edges$1: iterators over the names of a query's patterns. -/
namespace Go.Proofs.Ytokoneddljheaaa
open Go.RowKit Go.Shelf

attribute [local go_sem] Oper.semAt_some

def vnames (l : List Pat) : List ByteArray := l.flatMap (fun p => [p.frm, p.to])
def enames (l : List Pat) : List ByteArray := (l.filter (fun p => !noB p.name)).map Pat.name

end Go.Proofs.Ytokoneddljheaaa

/-! tree.once: each name once, as it comes first. -/
namespace Go.Proofs.Ytokoneddljheaaa
open Go.RowKit Go.Shelf

attribute [local go_sem] Oper.semAt_some

def onceStep (out : List ByteArray) (s : ByteArray) : List ByteArray := if hasB out s then out else out ++ [s]
def onceL (xs : List ByteArray) : List ByteArray := xs.foldl onceStep []

end Go.Proofs.Ytokoneddljheaaa

/-! tree.Vertices, tree.Edges: their contracts. -/
namespace Go.Proofs.Ytokoneddljheaaa
open Go.RowKit Go.Shelf

attribute [local go_sem] Oper.semAt_some

end Go.Proofs.Ytokoneddljheaaa

/- Two queries are the same if and only if they are one: plain laws. -/
namespace Go.Proofs.Ytokoneddljheaaa
open Go.RowKit

theorem toList_inj {s t : ByteArray} : (s.toList == t.toList) = true ↔ s = t := by
  refine ⟨fun h => ?_, fun h => by subst h; simp⟩
  have h := eq_of_beq h
  rw [ByteArray.toList_eq, ByteArray.toList_eq] at h
  obtain ⟨⟨l⟩⟩ := s
  obtain ⟨⟨m⟩⟩ := t
  have h : l = m := h
  subst h; rfl
end Go.Proofs.Ytokoneddljheaaa
