/- tree.Vertices$1, tree.Edges$1: iterators over the names of a query's patterns. -/

import Derived.Test.YtfflpdekojlnmaaGreatDoorProg
import Derived.Test.YtfflpdekojlnmaaGreatDoorTRange
import Derived.Test.YtfflpdekojlnmaaGreatDoorTBase2
import Derived.Maps.AppendAt
import Derived.Test.YtfflpdekojlnmaaGreatDoorTValue
import Derived.Test.YtfflpdekojlnmaaGreatDoorTLang
import Derived.Lib.SlicesCompact
/-! tree.Vertices$1, tree.Edges$1: iterators over the names of a query's patterns. -/
namespace Go.Proofs.YtfflpdekojlnmaaGreatDoor
open Go.RowKit Go.Shelf

attribute [local go_sem] Oper.semAt_some

def vnames (l : List Pat) : List ByteArray := l.flatMap (fun p => [p.frm, p.to])

end Go.Proofs.YtfflpdekojlnmaaGreatDoor

/-! tree.once: each name once, as it comes first. -/
namespace Go.Proofs.YtfflpdekojlnmaaGreatDoor
open Go.RowKit Go.Shelf

attribute [local go_sem] Oper.semAt_some

def onceStep (out : List ByteArray) (s : ByteArray) : List ByteArray := if hasB out s then out else out ++ [s]
def onceL (xs : List ByteArray) : List ByteArray := xs.foldl onceStep []

theorem infoStr : (Tryz.prog.info? 9).map (fun i => (i.zero, i.size, i.bytes)) = some (some (.string ⟨#[]⟩), 1, 16) := by kernel_rfl

theorem rdStrs_own {w : World} {base : Nat} {e : TypeId} {v : Value} {xs : List ByteArray} (h : w.ownsRow base e 1 v xs.length (xs.map Value.string)) : RdStrs w xs v := by
 obtain ⟨_, h | ⟨g, cap, cur, rfl, _, hg, h1, h2, h3, h4⟩⟩ := h
 ·exact .inl ⟨.inl h.1, List.length_eq_zero_iff.1 h.2⟩
 ·refine .inr ⟨g, 0, cap, rfl, h1, h2, fun i x hx => ⟨[.string x], rfl, ?_, trivial⟩⟩
  rw [cell_of_block hg]
  have hi := (List.getElem?_eq_some_iff.1 hx).1
  have : (cur.toList.take (xs.length * 1))[i]? = some (.string x) := by rw [h4]; simp [hx]
  rw [List.getElem?_take_of_lt (by omega)] at this
  simpa using this

end Go.Proofs.YtfflpdekojlnmaaGreatDoor

/-! tree.Vertices, tree.Edges: their contracts. -/
namespace Go.Proofs.YtfflpdekojlnmaaGreatDoor
open Go.RowKit Go.Shelf

attribute [local go_sem] Oper.semAt_some

theorem own_block {w : World} {base : Nat} {e : TypeId} {z : Nat} {v : Value} {n : Nat} {xs : List Value} (h : w.ownsRow base e z v n xs) : ∀ b off n c, v = .slice (some ⟨b, off, none⟩) n c → base ≤ b := by
 intro b off m c hv
 rcases h.2 with ⟨rfl, _⟩ | ⟨g, cap, cur, rfl, hg, _⟩
 ·cases hv
 ·cases hv; exact hg

end Go.Proofs.YtfflpdekojlnmaaGreatDoor

namespace Go.Proofs.YtfflpdekojlnmaaGreatDoor
open Go.RowKit

theorem toList_inj {s t : ByteArray} : (s.toList == t.toList) = true ↔ s = t := by
 refine ⟨fun h => ?_, fun h => by subst h; simp⟩
 have h := eq_of_beq h
 rw [ByteArray.toList_eq, ByteArray.toList_eq] at h
 obtain ⟨⟨l⟩⟩ := s
 obtain ⟨⟨m⟩⟩ := t
 have h : l = m := h
 subst h; rfl
end Go.Proofs.YtfflpdekojlnmaaGreatDoor

set_option linter.unusedSimpArgs false
set_option linter.unusedVariables false
namespace Go.Proofs.YtfflpdekojlnmaaGreatDoor
open Go.RowKit

def qOps (q : Qry) : List Opd := q.conds.flatMap (fun c => [c.left, c.right]) ++ q.ret
def kindO (o : Opd) : Int := if o.kind == 1 then 2 else if o.kind == 3 then o.val.kind else 0

def nmStep (vs : List ByteArray) : Option (List ByteArray) → Pat → Option (List ByteArray)
 | none, _ => none
 | some ns, p => if noB p.name then some ns else if hasB ns p.name || hasB vs p.name then none else some (ns ++ [p.name])
def nmL (vs : List ByteArray) (ps : List Pat) : Option (List ByteArray) := ps.foldl (nmStep vs) (some [])

/-! ### a map whose keys are texts -/
def kmap (vs ns : List ByteArray) : List (ByteArray × Int) := vs.map (·, 1) ++ ns.map (·, 2)

def opKnown (vs ns : List ByteArray) (o : Opd) : Bool := if o.kind == 1 then hasB vs o.name else if o.kind == 2 then hasB ns o.name else true
def typeBad (c : Cnd) : Bool := kindO c.left != 0 && kindO c.right != 0 && kindO c.left != kindO c.right
def chkQ (q : Qry) : Int := if qryRight q then
  match nmL (onceL (vnames q.pats)) q.pats with
  | none => 9
  | some ns => if (qOps q).all (opKnown (onceL (vnames q.pats)) ns) then (if q.conds.any typeBad then 10 else 0) else 8
 else 2

theorem seqb_iff {s t : ByteArray} : seqb s t = true ↔ s = t := toList_inj
def NoDb (l : List ByteArray) : Prop := ∀ k (h : k < l.length), hasB (l.take k) l[k] = false
end Go.Proofs.YtfflpdekojlnmaaGreatDoor

namespace Go.Proofs.YtfflpdekojlnmaaGreatDoor
open Go.RowKit

def renN (a b : List ByteArray) (s : ByteArray) : ByteArray := if idxB a s < 0 then s else b.getD (idxB a s).toNat ⟨#[]⟩
def mapO (f : ByteArray → ByteArray) (x : Opd) : Opd := if x.kind = 1 ∨ x.kind = 2 then { x with name := f x.name } else x

/-! ### names that stay unlike -/
structure Inj (f : ByteArray → ByteArray) : Prop where
 inj : ∀ s t, f s = f t → s = t
 free : ∀ s, freeB (f s) = freeB s
 no : ∀ s, noB (f s) = noB s

/-! ### the order does not matter -/
def rot {α : Type} (k : Nat) (l : List α) : List α := l.drop k ++ l.take k
/-! ### where a name stands -/

def perA : List ByteArray := [⟨#[97]⟩, ⟨#[98]⟩, ⟨#[99]⟩, ⟨#[100]⟩, ⟨#[101]⟩, ⟨#[102]⟩, ⟨#[103]⟩]
end Go.Proofs.YtfflpdekojlnmaaGreatDoor

namespace Go.Proofs.YtfflpdekojlnmaaGreatDoor
open Go.RowKit

def ordSame (p q : Pat) : Bool := if seqb p.frm q.frm && seqb p.to q.to && p.path == q.path then (if p.path then exSame p.expr q.expr else noB p.name && noB q.name && seqb p.label q.label) else false
def aheadB (ps : List Pat) (k : Nat) : Bool := match ps[k]? with
 | some p => (ps.take k).any (fun a => ordSame a p)
 | none => false
def nrmF (ps : List Pat) (i : Nat) : List Nat := ((List.range ps.length).drop i).filter (fun k => !aheadB ps k)
def nrmL (ps : List Pat) : List Nat := nrmF ps 0

def calledL (p : Pat) : List ByteArray := p.frm :: p.to :: (if !p.path && !noB p.name then [p.name] else [])
def namesStep (ps : List Pat) (out : List ByteArray) (k : Int) : List ByteArray := if 0 ≤ k ∧ k < ps.length then (match ps[k.toNat]? with | some p => (calledL p).foldl onceStep out | none => out) else out
def namesL (ps : List Pat) (ks : List Int) : List ByteArray := ks.foldl (namesStep ps) []
def oneB (b : Bool) : Nat := if b then 1 else 0
def endsN (ps : List Pat) (names : List ByteArray) (k : Int) : Nat := if 0 ≤ k ∧ k < ps.length then (match ps[k.toNat]? with | some p => oneB (hasB names p.frm) + oneB (hasB names p.to) | none => 0) else 0
def pathAt (ps : List Pat) (k : Nat) : Bool := match ps[k]? with
 | some p => p.path
 | none => false
def rankN (ps : List Pat) (names : List ByteArray) (k : Nat) : Int := 2 * (endsN ps names k : Int) + (if pathAt ps k then 0 else 1)
def maxF (r : Nat → Int) : List Nat → Nat → Nat
 | [], m => m
 | k :: l, m => maxF r l (if r k - r m > 0 then k else m)

def toI (l : List Nat) : List Int := l.map (fun k : Nat => (k : Int))
def nextK (ps : List Pat) (out : List Nat) : List Nat → Nat
 | [] => 0
 | a :: l => maxF (rankN ps (namesL ps (toI out))) l a
def ofL (ps : List Pat) : Nat → List Nat → List Nat → List Nat
 | 0, out, _ => out
 | n + 1, out, left => if left.isEmpty then out else ofL ps n (out ++ [nextK ps out left]) (left.filter (fun k => k != nextK ps out left))
structure OrdOk (ps : List Pat) (out left l : List Nat) : Prop where
 len : l.length = out.length + left.length
 pre : l.take out.length = out
 mem : ∀ k, k ∈ l → k ∈ out ∨ k ∈ left
 nod : l.Nodup
 best : ∀ (i k : Nat) (hi : i < l.length) (hk : k < l.length), out.length ≤ i → i < k → rankN ps (namesL ps (toI (l.take i))) l[k] ≤ rankN ps (namesL ps (toI (l.take i))) l[i] ∧ (rankN ps (namesL ps (toI (l.take i))) l[k] = rankN ps (namesL ps (toI (l.take i))) l[i] → l[i] < l[k])
def ordL (ps : List Pat) : List Nat := ofL ps (nrmL ps).length [] (nrmL ps)
/-! ### names -/
end Go.Proofs.YtfflpdekojlnmaaGreatDoor

namespace Go.Proofs.YtfflpdekojlnmaaGreatDoor
open Go.RowKit

theorem rise_ext : ∀ {a b : List Nat}, a.Pairwise (· < ·) → b.Pairwise (· < ·) → (∀ j, j ∈ a ↔ j ∈ b) → a = b
 | [], [], _, _, _ => rfl
 | [], y :: b, _, _, h => by have := (h y).2 List.mem_cons_self; simp at this
 | x :: a, [], _, _, h => by have := (h x).1 List.mem_cons_self; simp at this
 | x :: a, y :: b, ha, hb, h => by
  rw [List.pairwise_cons] at ha hb
  have hxy : x = y := by
   rcases List.mem_cons.1 ((h x).1 List.mem_cons_self) with e | e
   ·exact e
   ·rcases List.mem_cons.1 ((h y).2 List.mem_cons_self) with e2 | e2
    ·exact e2.symm
    ·have h1 := hb.1 x e
     have h2 := ha.1 y e2
     omega
  subst hxy
  refine congrArg (x :: ·) (rise_ext ha.2 hb.2 (fun j => ?_))
  have := h j
  simp only [List.mem_cons] at this
  constructor
  ·intro hj
   rcases this.1 (.inr hj) with e | e
   ·have := ha.1 j hj; omega
   ·exact e
  ·intro hj
   rcases this.2 (.inr hj) with e | e
   ·have := hb.1 j hj; omega
   ·exact e
theorem rise_sub_len : ∀ {a b : List Nat}, a.Pairwise (· < ·) → b.Pairwise (· < ·) → (∀ j, j ∈ a → j ∈ b) → a.length ≤ b.length ∧ (a.length = b.length → a = b)
 | [], b, _, _, _ => ⟨Nat.zero_le _, fun h => (List.eq_nil_of_length_eq_zero h.symm).symm⟩
 | x :: a, [], _, _, h => by have := h x List.mem_cons_self; simp at this
 | x :: a, y :: b, ha, hb, h => by
  rw [List.pairwise_cons] at ha hb
  by_cases hxy : x = y
  ·subst hxy
   obtain ⟨h1, h2⟩ := rise_sub_len ha.2 hb.2 (fun j hj => by
    rcases List.mem_cons.1 (h j (List.mem_cons_of_mem _ hj)) with e | e
    ·have := ha.1 j hj; omega
    ·exact e)
   exact ⟨by simpa using h1, fun e => by rw [h2 (by simpa using e)]⟩
  ·have hx : x ∈ b := (List.mem_cons.1 (h x List.mem_cons_self)).resolve_left hxy
   have hyx := hb.1 x hx
   obtain ⟨h1, h2⟩ := rise_sub_len (List.pairwise_cons.2 ha) hb.2 (fun j hj => by
    rcases List.mem_cons.1 (h j hj) with e | e
    ·rcases List.mem_cons.1 hj with e2 | e2
     ·omega
     ·have := ha.1 j e2; omega
    ·exact e)
   simp only [List.length_cons] at h1 ⊢
   exact ⟨by omega, fun e => by omega⟩
def srt (l : List Nat) : List Nat := (List.range (l.foldr max 0 + 1)).filter (fun j => l.contains j)
theorem le_max : ∀ {l : List Nat} {j : Nat}, j ∈ l → j ≤ l.foldr max 0
 | x :: l, j, h => by
  rw [List.foldr_cons]
  rcases List.mem_cons.1 h with rfl | h
  ·omega
  ·have := le_max h; omega
theorem srt_mem {l : List Nat} {j : Nat} : j ∈ srt l ↔ j ∈ l := by
 simp only [srt, List.mem_filter, List.mem_range, List.contains_iff_mem]
 exact ⟨fun h => h.2, fun h => ⟨by have := le_max h; omega, h⟩⟩
theorem srt_rise (l : List Nat) : (srt l).Pairwise (· < ·) := List.pairwise_lt_range.filter _
theorem srt_of {l : List Nat} (h : l.Pairwise (· < ·)) : srt l = l := rise_ext (srt_rise l) h (fun j => srt_mem)
theorem srt_len (l : List Nat) : (srt l).length ≤ l.length := by
 have hn : (srt l).Nodup := (srt_rise l).imp (fun h => by omega)
 have key : ∀ (a b : List Nat), a.Nodup → (∀ j, j ∈ a → j ∈ b) → a.length ≤ b.length := by
  intro a
  induction a with
  | nil => intro b _ _; simp
  | cons x a ih =>
   intro b hn h
   rw [List.nodup_cons] at hn
   have hx := h x List.mem_cons_self
   have := ih (b.erase x) hn.2 (fun j hj => by
    refine (List.mem_erase_of_ne ?_).2 (h j (List.mem_cons_of_mem _ hj))
    rintro rfl; exact hn.1 hj)
   rw [List.length_erase_of_mem hx] at this
   have hp : 0 < b.length := List.length_pos_of_mem hx
   simp only [List.length_cons]; omega
 exact key _ _ hn (fun j => srt_mem.1)
theorem rise_bound {l : List Nat} {n : Nat} (h : l.Pairwise (· < ·)) (hb : ∀ j, j ∈ l → j < n) : l.length ≤ n := by
 have := (rise_sub_len h (b := List.range n) List.pairwise_lt_range (fun j hj => List.mem_range.2 (hb j hj))).1
 simpa using this

open Go.Lib in
theorem cmp_ok (d : Array Int) (hs : ∀ i j, i ≤ j → j < d.size → d[i]! ≤ d[j]!) : ∀ m, m ≤ d.size → (compactUpTo d m).Pairwise (· < ·) ∧ (∀ x, x ∈ compactUpTo d m ↔ ∃ j, j < m ∧ x = d[j]!) ∧ ∀ x, x ∈ compactUpTo d m → x ≤ d[m - 1]!
 | 0, _ => ⟨by simp [compactUpTo], fun x => by simp [compactUpTo], fun x h => by simp [compactUpTo] at h⟩
 | m + 1, hm => by
  obtain ⟨h1, h2, h3⟩ := cmp_ok d hs m (by omega)
  rw [compactUpTo_succ]
  have hle : ∀ x, x ∈ compactUpTo d m → x ≤ d[m]! := fun x hx => by
   rcases Nat.eq_zero_or_pos m with e | e
   ·subst e; simp [compactUpTo] at hx
   ·exact Int.le_trans (h3 x hx) (hs (m - 1) m (by omega) (by omega))
  by_cases hk : keeps d m = true
  ·rw [if_pos hk]
   refine ⟨?_, fun x => ?_, fun x hx => ?_⟩
   ·rw [List.pairwise_append]
    refine ⟨h1, by simp, fun a ha b hb => ?_⟩
    simp only [List.mem_cons, List.not_mem_nil, or_false] at hb
    subst hb
    have ha2 := hle a ha
    rcases Nat.eq_zero_or_pos m with e | e
    ·subst e; simp [compactUpTo] at ha
    ·have hne : d[m]! ≠ d[m - 1]! := by
      simp only [keeps, decide_eq_true_eq] at hk
      rcases hk with hk | hk
      ·omega
      ·exact hk
     have h4 := h3 a ha
     have h5 := hs (m - 1) m (by omega) (by omega)
     omega
   ·simp only [List.mem_append, List.mem_cons, List.not_mem_nil, or_false, h2 x]
    constructor
    ·rintro (⟨j, hj, rfl⟩ | rfl)
     ·exact ⟨j, by omega, rfl⟩
     ·exact ⟨m, by omega, rfl⟩
    ·rintro ⟨j, hj, rfl⟩
     rcases Nat.lt_or_ge j m with q | q
     ·exact .inl ⟨j, q, rfl⟩
     ·obtain rfl : j = m := by omega
      exact .inr rfl
   ·rw [Nat.add_sub_cancel]
    simp only [List.mem_append, List.mem_cons, List.not_mem_nil, or_false] at hx
    rcases hx with hx | rfl
    ·exact hle x hx
    ·exact Int.le_refl _
  ·rw [if_neg hk, List.append_nil]
   have hm0 : m ≠ 0 ∧ d[m]! = d[m - 1]! := by
    simp only [keeps, decide_eq_true_eq] at hk
    exact ⟨fun e => hk (.inl e), Classical.byContradiction fun e => hk (.inr e)⟩
   refine ⟨h1, fun x => ?_, fun x hx => by rw [Nat.add_sub_cancel]; exact hle x hx⟩
   rw [h2 x]
   constructor
   ·rintro ⟨j, hj, rfl⟩; exact ⟨j, by omega, rfl⟩
   ·rintro ⟨j, hj, rfl⟩
    rcases Nat.lt_or_ge j m with q | q
    ·exact ⟨j, q, rfl⟩
    ·obtain rfl : j = m := by omega
     exact ⟨j - 1, by omega, hm0.2⟩
open Go.Lib in
theorem compact_sort (l : List Nat) : Go.Lib.compact ((toI l).mergeSort (fun x y => decide (x ≤ y))) = toI (srt l) := by
 have hsort : ((toI l).mergeSort (fun x y => decide (x ≤ y))).Pairwise (fun x y => decide (x ≤ y) = true) := List.pairwise_mergeSort (fun a b c h1 h2 => by simp only [decide_eq_true_eq] at *; omega) (fun a b => by simp only [Bool.or_eq_true, decide_eq_true_eq]; omega) _
 have hperm := List.mergeSort_perm (toI l) (fun x y => decide (x ≤ y))
 generalize (toI l).mergeSort (fun x y => decide (x ≤ y)) = s at hsort hperm
 have hs : ∀ i j, i ≤ j → j < s.toArray.size → s.toArray[i]! ≤ s.toArray[j]! := fun i j hij hj => by
  have hj' : j < s.length := by simpa using hj
  have hi' : i < s.length := by omega
  rw [getElem!_pos s.toArray i (by simpa using hi'), getElem!_pos s.toArray j hj]
  simp only [List.getElem_toArray]
  rcases Nat.lt_or_ge i j with q | q
  ·have := List.pairwise_iff_getElem.1 hsort i j hi' hj' q
   simpa using this
  ·obtain rfl : i = j := by omega
   exact Int.le_refl _
 obtain ⟨h1, h2, _⟩ := cmp_ok s.toArray hs s.length (by simp)
 show compactUpTo s.toArray s.length = _
 generalize compactUpTo s.toArray s.length = c at h1 h2
 have hmem : ∀ x, x ∈ c ↔ x ∈ toI l := fun x => by
  rw [h2 x, ← hperm.mem_iff]
  constructor
  ·rintro ⟨j, hj, rfl⟩
   rw [getElem!_pos s.toArray j (by simpa using hj)]
   simp
  ·intro hx
   obtain ⟨j, hj, rfl⟩ := List.getElem_of_mem hx
   exact ⟨j, hj, by rw [getElem!_pos s.toArray j (by simpa using hj)]; simp⟩
 have hc : c = toI (c.map Int.toNat) := by
  rw [toI, List.map_map]
  refine (List.map_id' c).symm.trans (List.map_congr_left (fun x hx => ?_))
  have := (hmem x).1 hx
  simp only [toI, List.mem_map] at this
  obtain ⟨j, _, rfl⟩ := this
  simp
 rw [hc]
 congr 1
 refine rise_ext ?_ (srt_rise l) (fun j => ?_)
 ·rw [List.pairwise_map]
  refine h1.imp_of_mem (fun {a b} ha hb h => ?_)
  have h3 := (hmem a).1 ha
  have h4 := (hmem b).1 hb
  simp only [toI, List.mem_map] at h3 h4
  obtain ⟨i, _, rfl⟩ := h3
  obtain ⟨k, _, rfl⟩ := h4
  omega
 ·rw [srt_mem, List.mem_map]
  constructor
  ·rintro ⟨x, hx, rfl⟩
   have h3 := (hmem x).1 hx
   simp only [toI, List.mem_map] at h3
   obtain ⟨i, hi, rfl⟩ := h3
   simpa using hi
  ·intro hj
   exact ⟨(j : Int), (hmem _).2 (by simp only [toI, List.mem_map]; exact ⟨j, hj, rfl⟩), by simp⟩
end Go.Proofs.YtfflpdekojlnmaaGreatDoor
