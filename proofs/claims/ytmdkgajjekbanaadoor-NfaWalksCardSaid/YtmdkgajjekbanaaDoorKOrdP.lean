/- tree.Vertices$1, tree.Edges$1: iterators over the names of a query's patterns. -/

import Derived.Test.YtmdkgajjekbanaaDoorProg
import Derived.Test.YtmdkgajjekbanaaDoorKRange
import Derived.Test.YtmdkgajjekbanaaDoorKBase2
import Derived.Maps.AppendAt
import Derived.Test.YtmdkgajjekbanaaDoorKValue
/-! tree.Vertices$1, tree.Edges$1: iterators over the names of a query's patterns. -/
namespace Go.Proofs.YtmdkgajjekbanaaDoor
open Go.RowKit Go.Shelf

attribute [local go_sem] Oper.semAt_some

def vnames (l : List Pat) : List ByteArray := l.flatMap (fun p => [p.frm, p.to])
def enames (l : List Pat) : List ByteArray := (l.filter (fun p => !noB p.name)).map Pat.name

end Go.Proofs.YtmdkgajjekbanaaDoor

/-! tree.once: each name once, as it comes first. -/
namespace Go.Proofs.YtmdkgajjekbanaaDoor
open Go.RowKit Go.Shelf

attribute [local go_sem] Oper.semAt_some

def onceStep (out : List ByteArray) (s : ByteArray) : List ByteArray := if hasB out s then out else out ++ [s]
def onceL (xs : List ByteArray) : List ByteArray := xs.foldl onceStep []

end Go.Proofs.YtmdkgajjekbanaaDoor

/-! tree.Vertices, tree.Edges: their contracts. -/
namespace Go.Proofs.YtmdkgajjekbanaaDoor
open Go.RowKit Go.Shelf

attribute [local go_sem] Oper.semAt_some

end Go.Proofs.YtmdkgajjekbanaaDoor

/- Two queries are the same if and only if they are one: plain laws. -/
namespace Go.Proofs.YtmdkgajjekbanaaDoor
open Go.RowKit

theorem toList_inj {s t : ByteArray} : (s.toList == t.toList) = true ↔ s = t := by
  refine ⟨fun h => ?_, fun h => by subst h; simp⟩
  have h := eq_of_beq h
  rw [ByteArray.toList_eq, ByteArray.toList_eq] at h
  obtain ⟨⟨l⟩⟩ := s
  obtain ⟨⟨m⟩⟩ := t
  have h : l = m := h
  subst h; rfl
end Go.Proofs.YtmdkgajjekbanaaDoor

/- check, in plain Lean: which names stand for vertices, which for edges; why a query may not be asked. -/
set_option linter.unusedSimpArgs false
set_option linter.unusedVariables false
namespace Go.Proofs.YtmdkgajjekbanaaDoor
open Go.RowKit

/-- all operands -/
def qOps (q : Qry) : List Opd := q.conds.flatMap (fun c => [c.left, c.right]) ++ q.ret
/-- what an operand is known to be -/
def kindO (o : Opd) : Int := if o.kind == 1 then 2 else if o.kind == 3 then o.val.kind else 0

/-- names of edges, as they come; none: something stands for two things -/
def nmStep (vs : List ByteArray) : Option (List ByteArray) → Pat → Option (List ByteArray)
  | none, _ => none
  | some ns, p => if noB p.name then some ns else if hasB ns p.name || hasB vs p.name then none else some (ns ++ [p.name])
def nmL (vs : List ByteArray) (ps : List Pat) : Option (List ByteArray) := ps.foldl (nmStep vs) (some [])

/-! ### a map whose keys are texts -/
def mget (l : List (ByteArray × Int)) (s : ByteArray) : Option Int := (l.find? (fun p => seqb s p.1)).map Prod.snd
/-- what stands for what -/
def kmap (vs ns : List ByteArray) : List (ByteArray × Int) := vs.map (·, 1) ++ ns.map (·, 2)

/-- an operand stands for something -/
def opKnown (vs ns : List ByteArray) (o : Opd) : Bool := if o.kind == 1 then hasB vs o.name else if o.kind == 2 then hasB ns o.name else true
def typeBad (c : Cnd) : Bool := kindO c.left != 0 && kindO c.right != 0 && kindO c.left != kindO c.right
/-- why a query may not be asked -/
def chkQ (q : Qry) : Int := if qryRight q then
    match nmL (onceL (vnames q.pats)) q.pats with
    | none => 9
    | some ns => if (qOps q).all (opKnown (onceL (vnames q.pats)) ns) then (if q.conds.any typeBad then 10 else 0) else 8
  else 2

theorem seqb_iff {s t : ByteArray} : seqb s t = true ↔ s = t := toList_inj
theorem hasB_iff {l : List ByteArray} {s : ByteArray} : hasB l s = true ↔ s ∈ l := by
  rw [hasB, List.any_eq_true]
  constructor
  · rintro ⟨x, h1, h2⟩; rw [seqb_iff.1 h2]; exact h1
  · intro h; exact ⟨s, h, seqb_iff.2 rfl⟩
/-- no text twice -/
def NoDb (l : List ByteArray) : Prop := ∀ k (h : k < l.length), hasB (l.take k) l[k] = false
end Go.Proofs.YtmdkgajjekbanaaDoor

/- tree.Rename, in plain Lean: names told anew; what check tells stays, if unlike names stay unlike; it does not hang on the order. -/
set_option linter.unusedSimpArgs false
set_option linter.unusedVariables false
namespace Go.Proofs.YtmdkgajjekbanaaDoor
open Go.RowKit

/-- a name told anew -/
def renN (a b : List ByteArray) (s : ByteArray) : ByteArray := if idxB a s < 0 then s else b.getD (idxB a s).toNat ⟨#[]⟩
/-- an operand, a pattern, a condition, a query told anew by a function of names -/
def mapO (f : ByteArray → ByteArray) (x : Opd) : Opd := if x.kind = 1 ∨ x.kind = 2 then { x with name := f x.name } else x
def mapP (f : ByteArray → ByteArray) (p : Pat) : Pat := { p with frm := f p.frm, to := f p.to, name := if noB p.name then p.name else f p.name }
def mapC (f : ByteArray → ByteArray) (c : Cnd) : Cnd := { c with left := mapO f c.left, right := mapO f c.right }
def mapQ (f : ByteArray → ByteArray) (q : Qry) : Qry := ⟨q.pats.map (mapP f), q.conds.map (mapC f), q.ret.map (mapO f), q.range, q.slide⟩
def renO (a b : List ByteArray) (x : Opd) : Opd := mapO (renN a b) x

theorem noB_iff {s : ByteArray} : noB s = true ↔ s = ⟨#[]⟩ := by
  unfold noB
  rw [decide_eq_true_eq]
  constructor
  · intro h
    obtain ⟨a⟩ := s
    have : a.size = 0 := h
    rw [Array.eq_empty_of_size_eq_zero this]
  · rintro rfl; rfl

/-! ### names that stay unlike -/
structure Inj (f : ByteArray → ByteArray) : Prop where
  inj : ∀ s t, f s = f t → s = t
  free : ∀ s, freeB (f s) = freeB s
  no : ∀ s, noB (f s) = noB s
theorem Inj.empty {f : ByteArray → ByteArray} (h : Inj f) {s : ByteArray} (hs : noB s = true) : f s = s := by
  rw [noB_iff.1 hs]
  have := h.no ⟨#[]⟩
  exact noB_iff.1 (this.trans (by rfl))
theorem Inj.name {f : ByteArray → ByteArray} (h : Inj f) (s : ByteArray) : (if noB s then s else f s) = f s := by
  by_cases hs : noB s = true
  · rw [if_pos hs, h.empty hs]
  · rw [if_neg hs]
theorem Inj.has {f : ByteArray → ByteArray} (h : Inj f) (l : List ByteArray) (s : ByteArray) : hasB (l.map f) (f s) = hasB l s := by
  rw [Bool.eq_iff_iff, hasB_iff, hasB_iff, List.mem_map]
  constructor
  · rintro ⟨t, h1, h2⟩; rw [← h.inj _ _ h2]; exact h1
  · intro h1; exact ⟨s, h1, rfl⟩
theorem Inj.names {f : ByteArray → ByteArray} (h : Inj f) (ps : List Pat) : enames (ps.map (mapP f)) = (enames ps).map f := by
  induction ps with
  | nil => rfl
  | cons p ps ih =>
    have e : (mapP f p).name = f p.name := h.name p.name
    simp only [enames, List.map_cons, List.filter_cons, e, h.no] at ih ⊢
    by_cases hn : noB p.name = true
    · simp only [hn, Bool.not_true, Bool.false_eq_true, if_false]; exact ih
    · simp only [Bool.not_eq_true] at hn
      simp only [hn, Bool.not_false, if_true, List.map_cons, e, ih]
theorem Inj.onceF {f : ByteArray → ByteArray} (h : Inj f) : ∀ (l acc : List ByteArray), (l.map f).foldl onceStep (acc.map f) = (l.foldl onceStep acc).map f
  | [], acc => rfl
  | s :: l, acc => by
    have e : onceStep (acc.map f) (f s) = (onceStep acc s).map f := by
      unfold onceStep
      rw [h.has]
      split <;> simp
    simp only [List.map_cons, List.foldl_cons, e]
    exact h.onceF l _
theorem Inj.once {f : ByteArray → ByteArray} (h : Inj f) (l : List ByteArray) : onceL (l.map f) = (onceL l).map f := h.onceF l []
theorem Inj.nmF {f : ByteArray → ByteArray} (h : Inj f) (vs : List ByteArray) : ∀ (ps : List Pat) (x : Option (List ByteArray)), (ps.map (mapP f)).foldl (nmStep (vs.map f)) (x.map (List.map f)) = (ps.foldl (nmStep vs) x).map (List.map f)
  | [], x => rfl
  | p :: ps, x => by
    have e : nmStep (vs.map f) (x.map (List.map f)) (mapP f p) = (nmStep vs x p).map (List.map f) := by
      have en : (mapP f p).name = f p.name := h.name p.name
      cases x with
      | none => rfl
      | some ns =>
        simp only [Option.map_some, nmStep, en, h.no, h.has]
        split
        · rfl
        · split <;> simp
    simp only [List.map_cons, List.foldl_cons, e]
    exact h.nmF vs ps _
theorem Inj.nm {f : ByteArray → ByteArray} (h : Inj f) (vs : List ByteArray) (ps : List Pat) : nmL (vs.map f) (ps.map (mapP f)) = (nmL vs ps).map (List.map f) := h.nmF vs ps (some [])
theorem mapO_kind (f : ByteArray → ByteArray) (o : Opd) : (mapO f o).kind = o.kind := by unfold mapO; split <;> rfl
theorem Inj.known {f : ByteArray → ByteArray} (h : Inj f) (vs ns : List ByteArray) (o : Opd) : opKnown (vs.map f) (ns.map f) (mapO f o) = opKnown vs ns o := by
  unfold opKnown
  rw [mapO_kind]
  by_cases h1 : o.kind = 1
  · have e : (mapO f o).name = f o.name := by unfold mapO; rw [if_pos (.inl h1)]
    simp only [h1, beq_self_eq_true, if_true, e, h.has]
  · by_cases h2 : o.kind = 2
    · have e : (mapO f o).name = f o.name := by unfold mapO; rw [if_pos (.inr h2)]
      simp only [h2, beq_self_eq_true, if_true, e, h.has]
    · have e1 : (o.kind == 1) = false := by simpa using h1
      have e2 : (o.kind == 2) = false := by simpa using h2
      simp only [e1, e2, Bool.false_eq_true, if_false]

/-! ### the order does not matter -/
def swapC (c : Cnd) : Cnd := ⟨c.op, c.right, c.left⟩
/-- turned about a place -/
def rot {α : Type} (k : Nat) (l : List α) : List α := l.drop k ++ l.take k
/-! ### where a name stands -/

/-- seven letters told anew -/
def perA : List ByteArray := [⟨#[97]⟩, ⟨#[98]⟩, ⟨#[99]⟩, ⟨#[100]⟩, ⟨#[101]⟩, ⟨#[102]⟩, ⟨#[103]⟩]
def perB : List ByteArray := [⟨#[99]⟩, ⟨#[103]⟩, ⟨#[97]⟩, ⟨#[101]⟩, ⟨#[100]⟩, ⟨#[98]⟩, ⟨#[102]⟩]
end Go.Proofs.YtmdkgajjekbanaaDoor

/- order, in plain Lean: which patterns are one, the normal places, the names that are bound, the order. -/
set_option linter.unusedSimpArgs false
set_option linter.unusedVariables false
namespace Go.Proofs.YtmdkgajjekbanaaDoor
open Go.RowKit

/-- two patterns are one -/
def ordSame (p q : Pat) : Bool := if seqb p.frm q.frm && seqb p.to q.to && p.path == q.path then (if p.path then exSame p.expr q.expr else noB p.name && noB q.name && seqb p.label q.label) else false
/-- a pattern is one with one ahead -/
def aheadB (ps : List Pat) (k : Nat) : Bool := match ps[k]? with
  | some p => (ps.take k).any (fun a => ordSame a p)
  | none => false
/-- the normal places, from one on -/
def nrmF (ps : List Pat) (i : Nat) : List Nat := ((List.range ps.length).drop i).filter (fun k => !aheadB ps k)
def nrmL (ps : List Pat) : List Nat := nrmF ps 0

/-- the names that a pattern binds -/
def calledL (p : Pat) : List ByteArray := p.frm :: p.to :: (if !p.path && !noB p.name then [p.name] else [])
def namesStep (ps : List Pat) (out : List ByteArray) (k : Int) : List ByteArray := if 0 ≤ k ∧ k < ps.length then (match ps[k.toNat]? with | some p => (calledL p).foldl onceStep out | none => out) else out
/-- the names that are bound behind places -/
def namesL (ps : List Pat) (ks : List Int) : List ByteArray := ks.foldl (namesStep ps) []
def oneB (b : Bool) : Nat := if b then 1 else 0
/-- how many ends of a pattern are among names -/
def endsN (ps : List Pat) (names : List ByteArray) (k : Int) : Nat := if 0 ≤ k ∧ k < ps.length then (match ps[k.toNat]? with | some p => oneB (hasB names p.frm) + oneB (hasB names p.to) | none => 0) else 0
def pathAt (ps : List Pat) (k : Nat) : Bool := match ps[k]? with
  | some p => p.path
  | none => false
/-- which place is taken rather -/
def rankN (ps : List Pat) (names : List ByteArray) (k : Nat) : Int := 2 * (endsN ps names k : Int) + (if pathAt ps k then 0 else 1)
/-- the first of the greatest -/
def maxF (r : Nat → Int) : List Nat → Nat → Nat
  | [], m => m
  | k :: l, m => maxF r l (if r k - r m > 0 then k else m)

def toI (l : List Nat) : List Int := l.map (fun k : Nat => (k : Int))
/-- what is taken next -/
def nextK (ps : List Pat) (out : List Nat) : List Nat → Nat
  | [] => 0
  | a :: l => maxF (rankN ps (namesL ps (toI out))) l a
/-- the order, so many steps on -/
def ofL (ps : List Pat) : Nat → List Nat → List Nat → List Nat
  | 0, out, _ => out
  | n + 1, out, left => if left.isEmpty then out else ofL ps n (out ++ [nextK ps out left]) (left.filter (fun k => k != nextK ps out left))
/-- what the order is like, from a state on -/
structure OrdOk (ps : List Pat) (out left l : List Nat) : Prop where
  len : l.length = out.length + left.length
  pre : l.take out.length = out
  mem : ∀ k, k ∈ l → k ∈ out ∨ k ∈ left
  nod : l.Nodup
  best : ∀ (i k : Nat) (hi : i < l.length) (hk : k < l.length), out.length ≤ i → i < k → rankN ps (namesL ps (toI (l.take i))) l[k] ≤ rankN ps (namesL ps (toI (l.take i))) l[i] ∧ (rankN ps (namesL ps (toI (l.take i))) l[k] = rankN ps (namesL ps (toI (l.take i))) l[i] → l[i] < l[k])
/-- the order of a query -/
def ordL (ps : List Pat) : List Nat := ofL ps (nrmL ps).length [] (nrmL ps)
/-! ### names -/
end Go.Proofs.YtmdkgajjekbanaaDoor
