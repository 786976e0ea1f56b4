/- check, in plain Lean: which names stand for vertices, which for edges; why a query may not be asked. -/
import Derived.Test.YtokoneddljheaaaAVerts
import Derived.Test.YtokoneddljheaaaAPlain
set_option linter.unusedSimpArgs false
set_option linter.unusedVariables false
namespace Go.Proofs.Ytokoneddljheaaa
open Go.RowKit

/-- all operands -/
def qOps (q : Qry) : List Opd := q.conds.flatMap (fun c => [c.left, c.right]) ++ q.ret
/-- what an operand is known to be -/
def kindO (o : Opd) : Int := if o.kind == 1 then 2 else if o.kind == 3 then o.val.kind else 0

/-- names of edges, as they come; none: something stands for two things -/
def nmStep (vs : List ByteArray) : Option (List ByteArray) → Pat → Option (List ByteArray)
  | none, _ => none
  | some ns, p => if noB p.name then some ns else if hasB ns p.name || hasB vs p.name then none else some (ns ++ [p.name])
def nmL (vs : List ByteArray) (ps : List Pat) : Option (List ByteArray) := ps.foldl (nmStep vs) (some [])
theorem nm_none (vs : List ByteArray) (ps : List Pat) : ps.foldl (nmStep vs) none = none := by
  induction ps with
  | nil => rfl
  | cons p ps ih => exact ih
theorem nmL_succ (vs : List ByteArray) {ps : List Pat} {i : Nat} (h : i < ps.length) : nmL vs (ps.take (i + 1)) = nmStep vs (nmL vs (ps.take i)) ps[i] := by
  rw [List.take_succ_eq_append_getElem h, nmL, List.foldl_append]; rfl
theorem nmL_stop {vs : List ByteArray} {ps : List Pat} {i : Nat} (h : nmL vs (ps.take i) = none) : nmL vs ps = none := by
  conv => lhs; rw [← List.take_append_drop i ps]
  rw [nmL, List.foldl_append]
  have : List.foldl (nmStep vs) (some []) (ps.take i) = none := h
  rw [this, nm_none]

/-! ### a map whose keys are texts -/
def mget (l : List (ByteArray × Int)) (s : ByteArray) : Option Int := (l.find? (fun p => seqb s p.1)).map Prod.snd
/-- what stands for what -/
def kmap (vs ns : List ByteArray) : List (ByteArray × Int) := vs.map (·, 1) ++ ns.map (·, 2)
theorem find_tag (l : List ByteArray) (n : Int) (s : ByteArray) : (l.map (·, n)).find? (fun p => seqb s p.1) = (l.find? (seqb s)).map (·, n) := by
  rw [List.find?_map]; rfl
theorem find_has (l : List ByteArray) (s : ByteArray) : (l.find? (seqb s)).isSome = hasB l s := by rw [Bool.eq_iff_iff, List.find?_isSome, hasB, List.any_eq_true]
theorem mget_k (vs ns : List ByteArray) (s : ByteArray) : mget (kmap vs ns) s = if hasB vs s then some 1 else if hasB ns s then some 2 else none := by
  rw [mget, kmap, List.find?_append, find_tag, find_tag, ← find_has vs, ← find_has ns]
  cases vs.find? (seqb s) <;> cases ns.find? (seqb s) <;> rfl
theorem kmap_v (vs : List ByteArray) (i : Nat) (h : i < vs.length) : kmap (vs.take (i + 1)) [] = kmap (vs.take i) [] ++ [(vs[i], 1)] := by
  simp only [kmap, List.map_nil, List.append_nil]
  rw [List.take_succ_eq_append_getElem h, List.map_append]; rfl
theorem kmap_n (vs ns : List ByteArray) (s : ByteArray) : kmap vs (ns ++ [s]) = kmap vs ns ++ [(s, 2)] := by simp [kmap]

/-- an operand stands for something -/
def opKnown (vs ns : List ByteArray) (o : Opd) : Bool := if o.kind == 1 then hasB vs o.name else if o.kind == 2 then hasB ns o.name else true
def typeBad (c : Cnd) : Bool := kindO c.left != 0 && kindO c.right != 0 && kindO c.left != kindO c.right
/-- why a query may not be asked -/
def chkQ (q : Qry) : Int := if qryRight q then
    match nmL (onceL (vnames q.pats)) q.pats with
    | none => 9
    | some ns => if (qOps q).all (opKnown (onceL (vnames q.pats)) ns) then (if q.conds.any typeBad then 10 else 0) else 8
  else 2

theorem opdRight_kind {o : Opd} (h : opdRight o = true) : o.kind = 1 ∨ o.kind = 2 ∨ o.kind = 3 := by
  unfold opdRight at h
  by_cases h1 : o.kind = 1
  · exact .inl h1
  · by_cases h2 : o.kind = 2
    · exact .inr (.inl h2)
    · by_cases h3 : o.kind = 3
      · exact .inr (.inr h3)
      · simp [h1, h2, h3] at h
theorem qOps_kind {q : Qry} (h : qryRight q = true) : ∀ o, o ∈ qOps q → o.kind = 1 ∨ o.kind = 2 ∨ o.kind = 3 := by
  intro o ho
  simp only [qryRight, Bool.and_eq_true] at h
  obtain ⟨⟨⟨_, _⟩, hc⟩, hr⟩ := h
  rw [List.all_eq_true] at hc hr
  rcases List.mem_append.1 ho with hm | hm
  · obtain ⟨c, hcm, ho⟩ := List.mem_flatMap.1 hm
    have := hc c hcm
    simp only [cndRight, Bool.and_eq_true] at this
    simp only [List.mem_cons, List.not_mem_nil, or_false] at ho
    rcases ho with rfl | rfl
    · exact opdRight_kind this.1.2
    · exact opdRight_kind this.2
  · have := hr o hm
    simp only [tldRight, Bool.and_eq_true] at this
    exact opdRight_kind this.2
theorem seqb_iff {s t : ByteArray} : seqb s t = true ↔ s = t := toList_inj
theorem hasB_iff {l : List ByteArray} {s : ByteArray} : hasB l s = true ↔ s ∈ l := by
  rw [hasB, List.any_eq_true]
  constructor
  · rintro ⟨x, h1, h2⟩; rw [seqb_iff.1 h2]; exact h1
  · intro h; exact ⟨s, h, seqb_iff.2 rfl⟩
theorem nm_apart (vs : List ByteArray) : ∀ (ps : List Pat) (ns0 ns : List ByteArray), (∀ s, s ∈ ns0 → hasB vs s = false) → ps.foldl (nmStep vs) (some ns0) = some ns → ∀ s, s ∈ ns → hasB vs s = false
  | [], ns0, ns, h0, h => by simp at h; subst h; exact h0
  | p :: ps, ns0, ns, h0, h => by
    simp only [List.foldl_cons, nmStep] at h
    split at h
    · exact nm_apart vs ps _ ns h0 h
    · split at h
      · rw [nm_none] at h; cases h
      · rename_i hb
        simp only [Bool.or_eq_true, not_or, Bool.not_eq_true] at hb
        refine nm_apart vs ps _ ns (fun s hs => ?_) h
        rcases List.mem_append.1 hs with hs | hs
        · exact h0 s hs
        · simp only [List.mem_singleton] at hs; rw [hs]; exact hb.2
theorem nmL_apart {vs : List ByteArray} {ps : List Pat} {ns : List ByteArray} (h : nmL vs ps = some ns) {s : ByteArray} (hv : hasB vs s = true) : hasB ns s = false := by
  cases hn : hasB ns s with
  | false => rfl
  | true =>
    have := nm_apart vs ps [] ns (fun s hs => by simp at hs) h s (hasB_iff.1 hn)
    rw [hv] at this; cases this
theorem kindO_range {o : Opd} (h : opdRight o = true) : 0 ≤ kindO o ∧ kindO o ≤ 2 := by
  rcases opdRight_kind h with e | e | e
  · simp [kindO, e]
  · simp [kindO, e]
  · simp only [opdRight, e] at h
    simp at h
    have h := h.1
    simp only [kindO, e]
    unfold valRight at h
    by_cases h1 : o.val.kind = 1
    · simp [h1]
    · by_cases h2 : o.val.kind = 2
      · simp [h2]
      · simp [h1, h2] at h
theorem cnd_range {q : Qry} (h : qryRight q = true) {c : Cnd} (hc : c ∈ q.conds) : (0 ≤ kindO c.left ∧ kindO c.left ≤ 2) ∧ 0 ≤ kindO c.right ∧ kindO c.right ≤ 2 := by
  simp only [qryRight, Bool.and_eq_true] at h
  have := List.all_eq_true.1 h.1.2 c hc
  simp only [cndRight, Bool.and_eq_true] at this
  exact ⟨kindO_range this.1.2, kindO_range this.2⟩
theorem kinds_bad {a b : Int} (ha : 0 ≤ a ∧ a ≤ 2) (hb : 0 ≤ b ∧ b ≤ 2) : (a != 0 && b != 0 && a != b) = (a != b && decide (0 < IntKind.i64.wrap (a * b))) := by
  obtain ⟨a1, a2⟩ := ha
  obtain ⟨b1, b2⟩ := hb
  have ha : a = 0 ∨ a = 1 ∨ a = 2 := by omega
  have hb : b = 0 ∨ b = 1 ∨ b = 2 := by omega
  rcases ha with rfl | rfl | rfl <;> rcases hb with rfl | rfl | rfl <;> decide
/-- no text twice -/
def NoDb (l : List ByteArray) : Prop := ∀ k (h : k < l.length), hasB (l.take k) l[k] = false
theorem noDb_step (xs : List ByteArray) (s : ByteArray) (h : NoDb xs) : NoDb (onceStep xs s) := by
  unfold onceStep
  cases hs : hasB xs s with
  | true => simpa using h
  | false =>
    simp only [Bool.false_eq_true, if_false]
    intro k hk
    rw [List.length_append, List.length_singleton] at hk
    rcases Nat.lt_or_ge k xs.length with q | q
    · rw [List.getElem_append_left q, List.take_append_of_le_length (by omega)]; exact h k q
    · obtain rfl : k = xs.length := by omega
      simpa using hs
theorem noDb_fold : ∀ (l acc : List ByteArray), NoDb acc → NoDb (l.foldl onceStep acc)
  | [], _, h => h
  | s :: l, acc, h => noDb_fold l _ (noDb_step acc s h)
theorem once_noDb (l : List ByteArray) : NoDb (onceL l) := noDb_fold l [] (fun k h => absurd h (by simp))
theorem mget_v {vs : List ByteArray} (h : NoDb vs) {i : Nat} (hi : i < vs.length) : mget (kmap (vs.take i) []) vs[i] = none := by
  rw [mget_k, h i hi]; rfl
end Go.Proofs.Ytokoneddljheaaa
