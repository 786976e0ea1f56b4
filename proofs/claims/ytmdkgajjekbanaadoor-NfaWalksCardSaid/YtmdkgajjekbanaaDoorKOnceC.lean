/- kinescopekit.SameExpr, SameExprs: they tell whether two expressions are the same. -/

import Derived.Test.YtmdkgajjekbanaaDoorProg
import Derived.Test.YtmdkgajjekbanaaDoorKBase
import Derived.StillTailTactics
import Derived.Test.YtmdkgajjekbanaaDoorKTreeA
import Derived.Test.YtmdkgajjekbanaaDoorKBase2
import Derived.Test.YtmdkgajjekbanaaDoorKExprA
import Derived.Test.YtmdkgajjekbanaaDoorKEnc
import Derived.Test.YtmdkgajjekbanaaDoorKOrdP
import Derived.Test.YtmdkgajjekbanaaDoorKAbsV
/-! kinescopekit.SameExpr, SameExprs: they tell whether two expressions are the same. -/
namespace Go.Proofs.YtmdkgajjekbanaaDoor
open Go.RowKit

def SameExprC (x : Ex) : Prop := ∀ (y : Ex) (cx cy : List Value) (w : World), RdEx w x cx → RdEx w y cy →
  Calls Tryd.prog 48 #[.agg cx.toArray, .agg cy.toArray] w (Ret w (.bool (exSame x y)))

end Go.Proofs.YtmdkgajjekbanaaDoor

/-! Loops that hold two slices against each other, element by element: texts, conditions, operands (kinescopekit.Same.., slices.Equal). -/
namespace Go.Proofs.YtmdkgajjekbanaaDoor
open Go.RowKit

end Go.Proofs.YtmdkgajjekbanaaDoor

/-! Two patterns held against each other; rows of patterns (kinescopekit). -/
namespace Go.Proofs.YtmdkgajjekbanaaDoor
open Go.RowKit

def SamePatternC (f : FuncId) : Prop := ∀ (x y : Pat) (k1 : Int) (s1 : ByteArray) (l1 : List Ex) (v1 : Value) (k2 : Int) (s2 : ByteArray) (l2 : List Ex) (v2 : Value) (w : World),
  x.expr = .mk k1 s1 l1 → RdExs w l1 v1 → y.expr = .mk k2 s2 l2 → RdExs w l2 v2 →
  Calls Tryd.prog f #[.agg #[.string x.frm, .string x.to, .bool x.path, .string x.label, .string x.name, .int .i64 k1, .string s1, v1], .agg #[.string y.frm, .string y.to, .bool y.path, .string y.label, .string y.name, .int .i64 k2, .string s2, v2]] w (Ret w (.bool (patSame x y)))

end Go.Proofs.YtmdkgajjekbanaaDoor

/-! expr.Same, tree.samePattern, tree.Same tell what kinescopekit.Same.. tells. -/
namespace Go.Proofs.YtmdkgajjekbanaaDoor
open Go.RowKit

end Go.Proofs.YtmdkgajjekbanaaDoor

/-! Two queries held against each other: kinescopekit.SameQuery, tree.Same. -/
namespace Go.Proofs.YtmdkgajjekbanaaDoor
open Go.RowKit

end Go.Proofs.YtmdkgajjekbanaaDoor

/- tree.pattern, tree.cond, tree.told -/
namespace Go.Proofs.YtmdkgajjekbanaaDoor
open Go.RowKit

end Go.Proofs.YtmdkgajjekbanaaDoor

/- tree.every: whether something is so of all patterns, conditions, operands. -/
namespace Go.Proofs.YtmdkgajjekbanaaDoor
open Go.RowKit

def idxF {α : Type} (q : α → Bool) (xs : List α) : Int := match xs.findIdx? q with | some k => k | none => -1

/-- a function value f (with what it has captured) tells q of each element, in whatever world behind w -/
def ElemPat (f : FuncId) (cap : List Value) (q : Pat → Bool) (w : World) : Prop := ∀ (x : Pat) (k : Int) (s : ByteArray) (l : List Ex) (v : Value) (W : World), Below w.heap.size w W → x.ok → x.expr = .mk k s l → RdExs W l v →
  Calls Tryd.prog f (.agg #[.string x.frm, .string x.to, .bool x.path, .string x.label, .string x.name, .int .i64 k, .string s, v] :: cap).toArray W (Ret W (.bool (q x)))
theorem ElemPat.later {f : FuncId} {cap : List Value} {q : Pat → Bool} {w w' : World} (h : ElemPat f cap q w) (hb : Below w.heap.size w w') : ElemPat f cap q w' :=
  fun x k s l v W hW => h x k s l v W (below_step hb hW)

/-- a function value f (with what it has captured) tells q of each element, in whatever world behind w -/
def ElemCnd (f : FuncId) (cap : List Value) (q : Cnd → Bool) (w : World) : Prop := ∀ (x : Cnd) (W : World), Below w.heap.size w W → x.ok →
  Calls Tryd.prog f (.agg #[.int .i64 x.op, .int .i64 x.left.kind, .string x.left.name, .string x.left.key, .int .i64 x.left.val.kind, .int .i64 x.left.val.num, .string x.left.val.text, .int .i64 x.right.kind, .string x.right.name, .string x.right.key, .int .i64 x.right.val.kind, .int .i64 x.right.val.num, .string x.right.val.text] :: cap).toArray W (Ret W (.bool (q x)))
theorem ElemCnd.later {f : FuncId} {cap : List Value} {q : Cnd → Bool} {w w' : World} (h : ElemCnd f cap q w) (hb : Below w.heap.size w w') : ElemCnd f cap q w' :=
  fun x W hW => h x W (below_step hb hW)

/-- a function value f (with what it has captured) tells q of each element, in whatever world behind w -/
def ElemOpd (f : FuncId) (cap : List Value) (q : Opd → Bool) (w : World) : Prop := ∀ (x : Opd) (W : World), Below w.heap.size w W → x.ok →
  Calls Tryd.prog f (.agg #[.int .i64 x.kind, .string x.name, .string x.key, .int .i64 x.val.kind, .int .i64 x.val.num, .string x.val.text] :: cap).toArray W (Ret W (.bool (q x)))
theorem ElemOpd.later {f : FuncId} {cap : List Value} {q : Opd → Bool} {w w' : World} (h : ElemOpd f cap q w) (hb : Below w.heap.size w w') : ElemOpd f cap q w' :=
  fun x W hW => h x W (below_step hb hW)

end Go.Proofs.YtmdkgajjekbanaaDoor

/- tree.Right -/
namespace Go.Proofs.YtmdkgajjekbanaaDoor
open Go.RowKit

end Go.Proofs.YtmdkgajjekbanaaDoor

/- The functions of tree and of the statements' kit, told so: what the abstract walk takes of them: Right, Vertices, Edges; texts compared. -/
set_option linter.unusedSimpArgs false
set_option linter.unusedVariables false
namespace Go.Proofs.YtmdkgajjekbanaaDoor
open Go.RowKit

end Go.Proofs.YtmdkgajjekbanaaDoor

/- tree.once of any iterator; slices.Values; slices.Index, Contains, told so; a nil slice in a box, seen as an own row without elements. -/
set_option linter.unusedSimpArgs false
set_option linter.unusedVariables false
namespace Go.Proofs.YtmdkgajjekbanaaDoor
open Go.RowKit

section
variable {P : Program}
/-- a nil slice in an own object, seen as an own row without elements -/
theorem turn_cell {s : AS} {k i j : Nat} {ob : AObj} {row : List AV} (T' : TypeId) (z' : Nat) (hz' : 0 < z') (hk : s.o[k]? = some (some ob)) (hz : 0 < ob.z) (hr : ob.rows[i]? = some row) (hj : row[j]? = some (.v (.slice none 0 0))) :
    Turn s (AS.mk s.t ((s.o ++ [some (AObj.mk T' z' true [])]).set k (some { ob with rows := ob.rows.set i (row.set j (.vec s.o.length 0)) })) s.y) := by
  intro f D nu a w hs
  have hv : ∀ b, blkM (Value.slice none 0 0) = some b → w.heap.size ≤ b := fun b e => by cases e
  have hp := push_mono (nu := nu) (o := s.o) (ob := ⟨T', z', true, []⟩) (Below.refl w.heap.size w) hv
  have hro := push_RO (ob := ⟨T', z', true, []⟩) hs.ro (Below.refl _ _) hv (.inl ⟨rfl, rfl, rfl⟩)
  have hlt := (List.getElem?_eq_some_iff.1 hk).1
  have hk' : (s.o ++ [some (⟨T', z', true, []⟩ : AObj)])[k]? = some (some ob) := by rw [List.getElem?_append_left hlt]; exact hk
  have hh : ob.hl = ({ ob with rows := ob.rows.set i (row.set j (.vec s.o.length 0)) } : AObj).hl := by simp [AObj.hl]
  obtain ⟨g, cur, hb⟩ : ∃ g cur, ROb D (updN nu s.o.length (.slice none 0 0)) (s.o ++ [some ⟨T', z', true, []⟩]) w k ob g cur := by
    rcases hro.obj k ob hk' with ⟨_, e, _⟩ | h | ⟨g, es, cl, hm⟩
    · rw [e] at hr; simp at hr
    · exact h
    · have := hm.z; omega
  have hm := set_mono (nu := updN nu s.o.length (.slice none 0 0)) (o := s.o ++ [some ⟨T', z', true, []⟩]) (w := w) (w' := w) (ob' := { ob with rows := ob.rows.set i (row.set j (.vec s.o.length 0)) }) hk' hh.symm hb.blkEq rfl rfl rfl rfl (fun _ _ => rfl)
  refine ⟨updN nu s.o.length (.slice none 0 0), hp.trans hm, rfl, ?_, (hs.tm.mono hp (fun _ _ h => h)).mono hm (fun _ _ h => h), hs.dfr⟩
  have hil := (List.getElem?_eq_some_iff.1 hr).1
  have hjl := (List.getElem?_eq_some_iff.1 hj).1
  have key : ∀ (i' j' : Nat) r c, (ob.rows.set i (row.set j (.vec s.o.length 0)))[i']? = some r → r[j']? = some c → ∃ r0 c0, ob.rows[i']? = some r0 ∧ r0[j']? = some c0 ∧ (c = c0 ∨ (c = .vec s.o.length 0 ∧ c0 = .v (.slice none 0 0))) := by
    intro i' j' r c h1 h2
    by_cases hi : i = i'
    · subst hi
      rw [List.getElem?_set_self hil] at h1; cases h1
      by_cases hj' : j = j'
      · subst hj'
        rw [List.getElem?_set_self hjl] at h2; cases h2
        exact ⟨row, _, hr, hj, .inr ⟨rfl, rfl⟩⟩
      · rw [List.getElem?_set_ne hj'] at h2
        exact ⟨row, c, hr, h2, .inl rfl⟩
    · rw [List.getElem?_set_ne hi] at h1
      exact ⟨r, c, h1, h2, .inl rfl⟩
  refine set_RO hro hk' hh.symm hb.blkEq hm (fun _ _ => rfl) (cur := cur) ⟨hb.blk, hb.dom, fun hv' => ?_, fun hv' => ?_, hb.z, fun i' r hi' => ?_, fun i' j' r c x h1 h2 h3 => ?_, fun i' j' r c x h1 h2 h3 => ?_⟩
  · obtain ⟨q1, q2, q3⟩ := hb.box hv'
    exact ⟨q1, by simpa using q2, q3⟩
  · obtain ⟨cap, q1, q2, q3, q4⟩ := hb.vec hv'
    exact ⟨cap, by simpa using q1, by simpa using q2, q3, q4⟩
  · by_cases hi : i = i'
    · subst hi
      rw [List.getElem?_set_self hil] at hi'; cases hi'
      rw [List.length_set]; exact hb.row i row hr
    · rw [List.getElem?_set_ne hi] at hi'
      exact hb.row i' r hi'
  · obtain ⟨r0, c0, k1, k2, e⟩ := key i' j' r c h1 h2
    have h0 := hb.cell i' j' r0 c0 x k1 k2 h3
    rcases e with rfl | ⟨rfl, rfl⟩
    · exact h0.mono hm (fun _ _ h => h)
    · obtain rfl := h0.v_eq
      have := RA.vec (D := D) (nu := updN nu s.o.length (.slice none 0 0)) (o := (s.o ++ [some (⟨T', z', true, []⟩ : AObj)])) (w := w) s.o.length 0 ⟨_, List.getElem?_concat_length, fun x hx => Nat.zero_le _⟩ (by rw [updN_new]; rfl)
      rw [updN_new] at this
      exact this.mono hm (fun _ _ h => h)
  · obtain ⟨r0, c0, k1, k2, _⟩ := key i' j' r c h1 h2
    exact hb.one i' j' r0 c0 x k1 k2 h3
end

/-- texts, one behind the other -/
def encT (l : List ByteArray) : List (List AV) := l.map (fun s => [.v (.string s)])

end Go.Proofs.YtmdkgajjekbanaaDoor
