/- tree.Rename, in plain Lean: names told anew; what check tells stays, if unlike names stay unlike; it does not hang on the order. -/
import Derived.Test.YtokoneddljheaaaXChkP
set_option linter.unusedSimpArgs false
set_option linter.unusedVariables false
namespace Go.Proofs.Ytokoneddljheaaa
open Go.RowKit

/-- a name told anew -/
def renN (a b : List ByteArray) (s : ByteArray) : ByteArray := if idxB a s < 0 then s else b.getD (idxB a s).toNat ⟨#[]⟩
/-- an operand, a pattern, a condition, a query told anew by a function of names -/
def mapO (f : ByteArray → ByteArray) (x : Opd) : Opd := if x.kind = 1 ∨ x.kind = 2 then { x with name := f x.name } else x
def mapP (f : ByteArray → ByteArray) (p : Pat) : Pat := { p with frm := f p.frm, to := f p.to, name := if noB p.name then p.name else f p.name }
def mapC (f : ByteArray → ByteArray) (c : Cnd) : Cnd := { c with left := mapO f c.left, right := mapO f c.right }
def mapQ (f : ByteArray → ByteArray) (q : Qry) : Qry := ⟨q.pats.map (mapP f), q.conds.map (mapC f), q.ret.map (mapO f), q.range, q.slide⟩
def renO (a b : List ByteArray) (x : Opd) : Opd := mapO (renN a b) x

theorem noB_iff {s : ByteArray} : noB s = true ↔ s = ⟨#[]⟩ := by
  unfold noB
  rw [decide_eq_true_eq]
  constructor
  · intro h
    obtain ⟨a⟩ := s
    have : a.size = 0 := h
    rw [Array.eq_empty_of_size_eq_zero this]
  · rintro rfl; rfl

/-! ### names that stay unlike -/
structure Inj (f : ByteArray → ByteArray) : Prop where
  inj : ∀ s t, f s = f t → s = t
  free : ∀ s, freeB (f s) = freeB s
  no : ∀ s, noB (f s) = noB s
theorem Inj.empty {f : ByteArray → ByteArray} (h : Inj f) {s : ByteArray} (hs : noB s = true) : f s = s := by
  rw [noB_iff.1 hs]
  have := h.no ⟨#[]⟩
  exact noB_iff.1 (this.trans (by rfl))
theorem Inj.name {f : ByteArray → ByteArray} (h : Inj f) (s : ByteArray) : (if noB s then s else f s) = f s := by
  by_cases hs : noB s = true
  · rw [if_pos hs, h.empty hs]
  · rw [if_neg hs]
theorem Inj.has {f : ByteArray → ByteArray} (h : Inj f) (l : List ByteArray) (s : ByteArray) : hasB (l.map f) (f s) = hasB l s := by
  rw [Bool.eq_iff_iff, hasB_iff, hasB_iff, List.mem_map]
  constructor
  · rintro ⟨t, h1, h2⟩; rw [← h.inj _ _ h2]; exact h1
  · intro h1; exact ⟨s, h1, rfl⟩
theorem Inj.names {f : ByteArray → ByteArray} (h : Inj f) (ps : List Pat) : enames (ps.map (mapP f)) = (enames ps).map f := by
  induction ps with
  | nil => rfl
  | cons p ps ih =>
    have e : (mapP f p).name = f p.name := h.name p.name
    simp only [enames, List.map_cons, List.filter_cons, e, h.no] at ih ⊢
    by_cases hn : noB p.name = true
    · simp only [hn, Bool.not_true, Bool.false_eq_true, if_false]; exact ih
    · simp only [Bool.not_eq_true] at hn
      simp only [hn, Bool.not_false, if_true, List.map_cons, e, ih]
theorem Inj.onceF {f : ByteArray → ByteArray} (h : Inj f) : ∀ (l acc : List ByteArray), (l.map f).foldl onceStep (acc.map f) = (l.foldl onceStep acc).map f
  | [], acc => rfl
  | s :: l, acc => by
    have e : onceStep (acc.map f) (f s) = (onceStep acc s).map f := by
      unfold onceStep
      rw [h.has]
      split <;> simp
    simp only [List.map_cons, List.foldl_cons, e]
    exact h.onceF l _
theorem Inj.once {f : ByteArray → ByteArray} (h : Inj f) (l : List ByteArray) : onceL (l.map f) = (onceL l).map f := h.onceF l []
theorem Inj.nmF {f : ByteArray → ByteArray} (h : Inj f) (vs : List ByteArray) : ∀ (ps : List Pat) (x : Option (List ByteArray)), (ps.map (mapP f)).foldl (nmStep (vs.map f)) (x.map (List.map f)) = (ps.foldl (nmStep vs) x).map (List.map f)
  | [], x => rfl
  | p :: ps, x => by
    have e : nmStep (vs.map f) (x.map (List.map f)) (mapP f p) = (nmStep vs x p).map (List.map f) := by
      have en : (mapP f p).name = f p.name := h.name p.name
      cases x with
      | none => rfl
      | some ns =>
        simp only [Option.map_some, nmStep, en, h.no, h.has]
        split
        · rfl
        · split <;> simp
    simp only [List.map_cons, List.foldl_cons, e]
    exact h.nmF vs ps _
theorem Inj.nm {f : ByteArray → ByteArray} (h : Inj f) (vs : List ByteArray) (ps : List Pat) : nmL (vs.map f) (ps.map (mapP f)) = (nmL vs ps).map (List.map f) := h.nmF vs ps (some [])
theorem mapO_kind (f : ByteArray → ByteArray) (o : Opd) : (mapO f o).kind = o.kind := by unfold mapO; split <;> rfl
theorem Inj.known {f : ByteArray → ByteArray} (h : Inj f) (vs ns : List ByteArray) (o : Opd) : opKnown (vs.map f) (ns.map f) (mapO f o) = opKnown vs ns o := by
  unfold opKnown
  rw [mapO_kind]
  by_cases h1 : o.kind = 1
  · have e : (mapO f o).name = f o.name := by unfold mapO; rw [if_pos (.inl h1)]
    simp only [h1, beq_self_eq_true, if_true, e, h.has]
  · by_cases h2 : o.kind = 2
    · have e : (mapO f o).name = f o.name := by unfold mapO; rw [if_pos (.inr h2)]
      simp only [h2, beq_self_eq_true, if_true, e, h.has]
    · have e1 : (o.kind == 1) = false := by simpa using h1
      have e2 : (o.kind == 2) = false := by simpa using h2
      simp only [e1, e2, Bool.false_eq_true, if_false]

/-! ### the order does not matter -/
def swapC (c : Cnd) : Cnd := ⟨c.op, c.right, c.left⟩
/-- turned about a place -/
def rot {α : Type} (k : Nat) (l : List α) : List α := l.drop k ++ l.take k
/-! ### where a name stands -/

/-- seven letters told anew -/
def perA : List ByteArray := [⟨#[97]⟩, ⟨#[98]⟩, ⟨#[99]⟩, ⟨#[100]⟩, ⟨#[101]⟩, ⟨#[102]⟩, ⟨#[103]⟩]
def perB : List ByteArray := [⟨#[99]⟩, ⟨#[103]⟩, ⟨#[97]⟩, ⟨#[101]⟩, ⟨#[100]⟩, ⟨#[98]⟩, ⟨#[102]⟩]
end Go.Proofs.Ytokoneddljheaaa
