/- order, in plain Lean: which patterns are one, the normal places, the names that are bound, the order. -/
import Derived.Test.YtokoneddljheaaaARenP
set_option linter.unusedSimpArgs false
set_option linter.unusedVariables false
namespace Go.Proofs.Ytokoneddljheaaa
open Go.RowKit

/-- two patterns are one -/
def ordSame (p q : Pat) : Bool := if seqb p.frm q.frm && seqb p.to q.to && p.path == q.path then (if p.path then exSame p.expr q.expr else noB p.name && noB q.name && seqb p.label q.label) else false
/-- a pattern is one with one ahead -/
def aheadB (ps : List Pat) (k : Nat) : Bool := match ps[k]? with
  | some p => (ps.take k).any (fun a => ordSame a p)
  | none => false
/-- the normal places, from one on -/
def nrmF (ps : List Pat) (i : Nat) : List Nat := ((List.range ps.length).drop i).filter (fun k => !aheadB ps k)
def nrmL (ps : List Pat) : List Nat := nrmF ps 0
theorem range_drop {n i : Nat} (h : i < n) : (List.range n).drop i = i :: (List.range n).drop (i + 1) := by
  rw [List.drop_eq_getElem_cons (by simpa using h)]; simp
theorem nrmF_at {ps : List Pat} {i : Nat} (h : i < ps.length) : nrmF ps i = if aheadB ps i then nrmF ps (i + 1) else i :: nrmF ps (i + 1) := by
  rw [nrmF, range_drop h, List.filter_cons]
  cases aheadB ps i <;> simp [nrmF]
theorem nrmF_end (ps : List Pat) : nrmF ps ps.length = [] := by rw [nrmF, List.drop_eq_nil_of_le (by simp)]; rfl
theorem nrmL_lt {ps : List Pat} {k : Nat} (h : k ∈ nrmL ps) : k < ps.length := by
  have := (List.mem_filter.1 h).1
  simpa using this
theorem nrmL_rise (ps : List Pat) : (nrmL ps).Pairwise (· < ·) := by
  refine List.Pairwise.filter _ ?_
  rw [List.drop_zero]
  exact List.pairwise_lt_range
theorem nrmL_len (ps : List Pat) : (nrmL ps).length ≤ ps.length := by
  have := List.length_filter_le (fun k => !aheadB ps k) ((List.range ps.length).drop 0)
  simpa [nrmL, nrmF] using this

/-- the names that a pattern binds -/
def calledL (p : Pat) : List ByteArray := p.frm :: p.to :: (if !p.path && !noB p.name then [p.name] else [])
def namesStep (ps : List Pat) (out : List ByteArray) (k : Int) : List ByteArray := if 0 ≤ k ∧ k < ps.length then (match ps[k.toNat]? with | some p => (calledL p).foldl onceStep out | none => out) else out
/-- the names that are bound behind places -/
def namesL (ps : List Pat) (ks : List Int) : List ByteArray := ks.foldl (namesStep ps) []
theorem namesL_succ (ps : List Pat) {ks : List Int} {i : Nat} (h : i < ks.length) : namesL ps (ks.take (i + 1)) = namesStep ps (namesL ps (ks.take i)) ks[i] := by
  rw [List.take_succ_eq_append_getElem h, namesL, List.foldl_append]; rfl
def oneB (b : Bool) : Nat := if b then 1 else 0
/-- how many ends of a pattern are among names -/
def endsN (ps : List Pat) (names : List ByteArray) (k : Int) : Nat := if 0 ≤ k ∧ k < ps.length then (match ps[k.toNat]? with | some p => oneB (hasB names p.frm) + oneB (hasB names p.to) | none => 0) else 0
theorem endsN_le (ps : List Pat) (names : List ByteArray) (k : Int) : endsN ps names k ≤ 2 := by
  unfold endsN
  split
  · split
    · unfold oneB; split <;> split <;> omega
    · omega
  · omega
def pathAt (ps : List Pat) (k : Nat) : Bool := match ps[k]? with
  | some p => p.path
  | none => false
/-- which place is taken rather -/
def rankN (ps : List Pat) (names : List ByteArray) (k : Nat) : Int := 2 * (endsN ps names k : Int) + (if pathAt ps k then 0 else 1)
/-- the first of the greatest -/
def maxF (r : Nat → Int) : List Nat → Nat → Nat
  | [], m => m
  | k :: l, m => maxF r l (if r k - r m > 0 then k else m)
theorem maxF_spec (r : Nat → Int) : ∀ (l : List Nat) (m : Nat), (maxF r l m = m ∨ maxF r l m ∈ l) ∧ r m ≤ r (maxF r l m) ∧ ∀ k, k ∈ l → r k ≤ r (maxF r l m)
  | [], m => ⟨.inl rfl, Int.le_refl _, fun k h => by simp at h⟩
  | k :: l, m => by
    rw [maxF]
    obtain ⟨h1, h2, h3⟩ := maxF_spec r l (if r k - r m > 0 then k else m)
    by_cases hk : r k - r m > 0
    · rw [if_pos hk] at h1 h2 h3 ⊢
      refine ⟨.inr ?_, by omega, fun j hj => ?_⟩
      · rcases h1 with e | e
        · rw [e]; exact List.mem_cons_self
        · exact List.mem_cons_of_mem _ e
      · rcases List.mem_cons.1 hj with rfl | hj
        · exact h2
        · exact h3 j hj
    · rw [if_neg hk] at h1 h2 h3 ⊢
      refine ⟨h1.imp id (List.mem_cons_of_mem _), h2, fun j hj => ?_⟩
      rcases List.mem_cons.1 hj with rfl | hj
      · omega
      · exact h3 j hj
/-- of rising places the least of the greatest -/
theorem maxF_least (r : Nat → Int) : ∀ (l : List Nat) (m : Nat), (m :: l).Pairwise (· < ·) → ∀ k, k ∈ m :: l → r k = r (maxF r l m) → maxF r l m ≤ k
  | [], m, _, k, hk, _ => by simp at hk; subst hk; exact Nat.le_refl _
  | j :: l, m, hp, k, hk, hr => by
    rw [maxF] at hr ⊢
    rw [List.pairwise_cons] at hp
    have hmj : m < j := hp.1 j List.mem_cons_self
    by_cases hj : r j - r m > 0
    · rw [if_pos hj] at hr ⊢
      rcases List.mem_cons.1 hk with rfl | hk
      · exfalso
        have := (maxF_spec r l j).2.1
        omega
      · exact maxF_least r l j hp.2 k hk hr
    · rw [if_neg hj] at hr ⊢
      have hp2 : (m :: l).Pairwise (· < ·) := List.pairwise_cons.2 ⟨fun x hx => hp.1 x (List.mem_cons_of_mem _ hx), (List.pairwise_cons.1 hp.2).2⟩
      rcases List.mem_cons.1 hk with rfl | hk
      · exact maxF_least r l _ hp2 _ List.mem_cons_self hr
      · rcases List.mem_cons.1 hk with rfl | hk
        · have h1 := (maxF_spec r l m).2.1
          have h2 := maxF_least r l m hp2 m List.mem_cons_self (by omega)
          omega
        · exact maxF_least r l m hp2 k (List.mem_cons_of_mem _ hk) hr

def toI (l : List Nat) : List Int := l.map (fun k : Nat => (k : Int))
/-- what is taken next -/
def nextK (ps : List Pat) (out : List Nat) : List Nat → Nat
  | [] => 0
  | a :: l => maxF (rankN ps (namesL ps (toI out))) l a
/-- the order, so many steps on -/
def ofL (ps : List Pat) : Nat → List Nat → List Nat → List Nat
  | 0, out, _ => out
  | n + 1, out, left => if left.isEmpty then out else ofL ps n (out ++ [nextK ps out left]) (left.filter (fun k => k != nextK ps out left))
theorem nextK_mem (ps : List Pat) (out : List Nat) {left : List Nat} (h : left ≠ []) : nextK ps out left ∈ left := by
  cases left with
  | nil => exact absurd rfl h
  | cons a l =>
    rcases (maxF_spec (rankN ps (namesL ps (toI out))) l a).1 with e | e
    · rw [nextK, e]; exact List.mem_cons_self
    · rw [nextK]; exact List.mem_cons_of_mem _ e
theorem filter_len {left : List Nat} {k : Nat} (hn : left.Nodup) (h : k ∈ left) : (left.filter (fun j => j != k)).length + 1 = left.length := by
  induction left with
  | nil => simp at h
  | cons a l ih =>
    rw [List.nodup_cons] at hn
    by_cases hak : a = k
    · subst hak
      have : l.filter (fun j => j != a) = l := List.filter_eq_self.2 (fun x hx => by simp; rintro rfl; exact hn.1 hx)
      simp [this]
    · have hm : k ∈ l := (List.mem_cons.1 h).resolve_left (fun e => hak e.symm)
      have := ih hn.2 hm
      simp [List.filter_cons, hak]; omega
theorem nextK_best (ps : List Pat) (out : List Nat) {left : List Nat} {k : Nat} (hp : left.Pairwise (· < ·)) (hk : k ∈ left) : rankN ps (namesL ps (toI out)) k ≤ rankN ps (namesL ps (toI out)) (nextK ps out left) ∧ (rankN ps (namesL ps (toI out)) k = rankN ps (namesL ps (toI out)) (nextK ps out left) → nextK ps out left ≤ k) := by
  cases left with
  | nil => simp at hk
  | cons a l =>
    rw [nextK]
    refine ⟨?_, fun h => maxF_least _ l a hp k hk h⟩
    obtain ⟨_, h2, h3⟩ := maxF_spec (rankN ps (namesL ps (toI out))) l a
    rcases List.mem_cons.1 hk with rfl | hk
    · exact h2
    · exact h3 k hk
/-- what the order is like, from a state on -/
structure OrdOk (ps : List Pat) (out left l : List Nat) : Prop where
  len : l.length = out.length + left.length
  pre : l.take out.length = out
  mem : ∀ k, k ∈ l → k ∈ out ∨ k ∈ left
  nod : l.Nodup
  best : ∀ (i k : Nat) (hi : i < l.length) (hk : k < l.length), out.length ≤ i → i < k → rankN ps (namesL ps (toI (l.take i))) l[k] ≤ rankN ps (namesL ps (toI (l.take i))) l[i] ∧ (rankN ps (namesL ps (toI (l.take i))) l[k] = rankN ps (namesL ps (toI (l.take i))) l[i] → l[i] < l[k])
theorem ofL_ok (ps : List Pat) : ∀ (n : Nat) (out left : List Nat), left.length ≤ n → left.Pairwise (· < ·) → (∀ k, k ∈ out → k ∉ left) → out.Nodup → OrdOk ps out left (ofL ps n out left)
  | 0, out, left, h, hp, hd, ho => by
    have : left = [] := List.length_eq_zero_iff.1 (by omega)
    subst this
    rw [ofL]
    exact ⟨by simp, List.take_length, fun k h => .inl h, ho, fun i k hi hk h1 h2 => by omega⟩
  | n + 1, out, left, h, hp, hd, ho => by
    rw [ofL]
    by_cases he : left = []
    · subst he
      simp only [List.isEmpty_nil, if_true]
      exact ⟨by simp, List.take_length, fun k h => .inl h, ho, fun i k hi hk h1 h2 => by omega⟩
    · have hie : left.isEmpty = false := by cases left <;> simp_all
      rw [hie]
      simp only [Bool.false_eq_true, if_false]
      have hm := nextK_mem ps out he
      have hn : left.Nodup := hp.imp (fun h => by omega)
      have hl := filter_len hn hm
      have hbest := fun k (hk : k ∈ left) => nextK_best ps out hp hk
      generalize nextK ps out left = x at hm hl hbest ⊢
      have ih := ofL_ok ps n (out ++ [x]) (left.filter (fun j => j != x)) (by omega) (hp.filter _) (fun k hk hf => by
        have hf' := List.mem_filter.1 hf
        rcases List.mem_append.1 hk with h | h
        · exact hd k h hf'.1
        · simp only [List.mem_cons, List.not_mem_nil, or_false] at h
          subst h; simp at hf') (by
        rw [List.nodup_append]
        refine ⟨ho, by simp, fun a ha b hb => ?_⟩
        simp only [List.mem_cons, List.not_mem_nil, or_false] at hb
        subst hb
        rintro rfl
        exact hd a ha hm)
      generalize ofL ps n (out ++ [x]) (left.filter (fun j => j != x)) = l at ih ⊢
      obtain ⟨a1, a2, a3, a4, a5⟩ := ih
      rw [List.length_append, List.length_singleton] at a1 a2
      have hol : out.length < l.length := by omega
      have hox : l[out.length] = x := by
        have := congrArg (fun l => l[out.length]?) a2
        simp only [List.getElem?_take, Nat.lt_add_one, if_true] at this
        rw [List.getElem?_append_right (Nat.le_refl _), Nat.sub_self] at this
        exact (List.getElem?_eq_some_iff.1 this).2
      have hpre : l.take out.length = out := by
        have := congrArg (List.take out.length) a2
        rw [List.take_take, Nat.min_eq_left (by omega), List.take_left'] at this
        · exact this
        · rfl
      refine ⟨by omega, hpre, fun k hk => ?_, a4, fun i k hi hk h1 h2 => ?_⟩
      · rcases a3 k hk with h | h
        · rcases List.mem_append.1 h with h | h
          · exact .inl h
          · simp only [List.mem_cons, List.not_mem_nil, or_false] at h
            subst h; exact .inr hm
        · exact .inr (List.mem_filter.1 h).1
      · by_cases hi0 : i = out.length
        · subst hi0
          rw [hpre, hox]
          have hkl : l[k] ∈ left.filter (fun j => j != x) := by
            rcases a3 l[k] (List.getElem_mem hk) with h | h
            · exfalso
              rw [← a2] at h
              obtain ⟨j, hj, e⟩ := List.mem_take_iff_getElem.1 h
              have := (List.getElem_inj a4).1 e
              omega
            · exact h
          obtain ⟨k1, k2⟩ := List.mem_filter.1 hkl
          have hb := hbest l[k] k1
          refine ⟨hb.1, fun e => ?_⟩
          have := hb.2 e
          have hne : l[k] ≠ x := by simpa using k2
          omega
        · exact a5 i k hi hk (by simp; omega) h2
/-- the order of a query -/
def ordL (ps : List Pat) : List Nat := ofL ps (nrmL ps).length [] (nrmL ps)
theorem ordL_ok (ps : List Pat) : OrdOk ps [] (nrmL ps) (ordL ps) := ofL_ok ps _ [] _ (Nat.le_refl _) (nrmL_rise ps) (fun k h => by simp at h) List.nodup_nil
/-- as the law says it -/
theorem rank_law {ps : List Pat} {names : List ByteArray} {a b : Nat} (h : rankN ps names b ≤ rankN ps names a ∧ (rankN ps names b = rankN ps names a → a < b)) :
    (decide ((endsN ps names b : Int) > (endsN ps names a : Int)) || (decide ((endsN ps names b : Int) = (endsN ps names a : Int)) && (!pathAt ps b && pathAt ps a || (pathAt ps b == pathAt ps a && decide (b < a))))) = false := by
  unfold rankN at h
  obtain ⟨h1, h2⟩ := h
  generalize endsN ps names a = x at h1 h2 ⊢
  generalize endsN ps names b = y at h1 h2 ⊢
  rw [← Bool.not_eq_true]
  intro hc
  simp only [Bool.or_eq_true, Bool.and_eq_true, decide_eq_true_eq, Bool.not_eq_true', beq_iff_eq] at hc
  generalize pathAt ps a = u at h1 h2 hc
  generalize pathAt ps b = v at h1 h2 hc
  rcases hc with hc | ⟨he, ⟨rfl, rfl⟩ | ⟨rfl, hc⟩⟩
  · cases u <;> cases v <;> simp only [if_true, if_false, Bool.false_eq_true] at h1 <;> omega
  · simp only [if_true, if_false, Bool.false_eq_true] at h1; omega
  · have := h2 (by rw [he]); omega
theorem ordSame_iff {p q : Pat} : ordSame p q = true ↔ p.frm = q.frm ∧ p.to = q.to ∧ p.path = q.path ∧ ((p.path = true ∧ p.expr = q.expr) ∨ (p.path = false ∧ noB p.name = true ∧ noB q.name = true ∧ p.label = q.label)) := by
  unfold ordSame
  by_cases h : (seqb p.frm q.frm && seqb p.to q.to && p.path == q.path) = true
  · rw [if_pos h]
    simp only [Bool.and_eq_true, seqb_iff, beq_iff_eq] at h
    obtain ⟨⟨h1, h2⟩, h3⟩ := h
    cases hp : p.path with
    | true => simp [h1, h2, ← h3, hp, exSame_eq]
    | false => simp [h1, h2, ← h3, hp, seqb_iff, and_assoc]
  · rw [if_neg h]
    simp only [Bool.and_eq_true, seqb_iff, beq_iff_eq] at h
    constructor
    · intro h; cases h
    · rintro ⟨h1, h2, h3, _⟩; exact absurd ⟨⟨h1, h2⟩, h3⟩ h
theorem ordSame_trans {p q r : Pat} (h : ordSame p q = true) (k : ordSame q r = true) : ordSame p r = true := by
  rw [ordSame_iff] at h k ⊢
  obtain ⟨h1, h2, h3, h4⟩ := h
  obtain ⟨k1, k2, k3, k4⟩ := k
  refine ⟨h1.trans k1, h2.trans k2, h3.trans k3, ?_⟩
  rcases h4 with ⟨a, b⟩ | ⟨a, b, c, d⟩
  · rcases k4 with ⟨a', b'⟩ | ⟨a', _⟩
    · exact .inl ⟨a, b.trans b'⟩
    · rw [← h3, a] at a'; cases a'
  · rcases k4 with ⟨a', _⟩ | ⟨a', b', c', d'⟩
    · rw [← h3, a] at a'; cases a'
    · exact .inr ⟨a, b, c', d.trans d'⟩
theorem aheadB_iff {ps : List Pat} {k : Nat} (h : k < ps.length) : aheadB ps k = true ↔ ∃ j, ∃ hj : j < k, ordSame (ps[j]'(by omega)) ps[k] = true := by
  unfold aheadB
  rw [List.getElem?_eq_getElem h, List.any_eq_true]
  constructor
  · rintro ⟨a, ha, hs⟩
    obtain ⟨j, hj, e⟩ := List.mem_take_iff_getElem.1 ha
    exact ⟨j, by omega, by rw [e]; exact hs⟩
  · rintro ⟨j, hj, hs⟩
    exact ⟨_, List.mem_take_iff_getElem.2 ⟨j, by omega, rfl⟩, hs⟩
theorem nrmL_mem {ps : List Pat} {k : Nat} : k ∈ nrmL ps ↔ k < ps.length ∧ aheadB ps k = false := by
  simp [nrmL, nrmF, List.mem_filter]
/-- each pattern is at a normal place, or one with one ahead that is -/
theorem nrmL_found {ps : List Pat} {k : Nat} (h : k < ps.length) : k ∈ nrmL ps ∨ ∃ j, ∃ hj : j < k, j ∈ nrmL ps ∧ ordSame (ps[j]'(by omega)) ps[k] = true := by
  cases ha : aheadB ps k with
  | false => exact .inl (nrmL_mem.2 ⟨h, ha⟩)
  | true =>
    right
    have key : ∀ n j, j < n → ∀ hj : j < k, ordSame (ps[j]'(by omega)) ps[k] = true → ∃ j, ∃ hj : j < k, j ∈ nrmL ps ∧ ordSame (ps[j]'(by omega)) ps[k] = true := by
      intro n
      induction n with
      | zero => intro j h; omega
      | succ n ih =>
        intro j hjn hj hs
        cases hb : aheadB ps j with
        | false => exact ⟨j, hj, nrmL_mem.2 ⟨by omega, hb⟩, hs⟩
        | true =>
          obtain ⟨i, hi, hs2⟩ := (aheadB_iff (by omega)).1 hb
          exact ih i (by omega) (by omega) (ordSame_trans hs2 hs)
    obtain ⟨j, hj, hs⟩ := (aheadB_iff h).1 ha
    exact key (j + 1) j (by omega) hj hs
/-! ### names -/
theorem onceF_len : ∀ (l acc : List ByteArray), (l.foldl onceStep acc).length ≤ acc.length + l.length
  | [], acc => by simp
  | s :: l, acc => by
    have h1 := onceF_len l (onceStep acc s)
    have h2 : (onceStep acc s).length ≤ acc.length + 1 := by unfold onceStep; split <;> simp
    simp only [List.foldl_cons, List.length_cons]; omega
theorem calledL_len (p : Pat) : (calledL p).length ≤ 3 := by unfold calledL; split <;> simp
theorem namesStep_len (ps : List Pat) (out : List ByteArray) (k : Int) : (namesStep ps out k).length ≤ out.length + 3 := by
  unfold namesStep
  split
  · split
    · rename_i p _
      have := onceF_len (calledL p) out; have := calledL_len p; omega
    · omega
  · omega
theorem namesF_len (ps : List Pat) : ∀ (ks : List Int) (out : List ByteArray), (ks.foldl (namesStep ps) out).length ≤ out.length + 3 * ks.length
  | [], _ => by simp
  | k :: ks, out => by
    have h1 := namesF_len ps ks (namesStep ps out k)
    have h2 := namesStep_len ps out k
    simp only [List.foldl_cons, List.length_cons]; omega
theorem namesL_len (ps : List Pat) (ks : List Int) : (namesL ps ks).length ≤ 3 * ks.length := by have := namesF_len ps ks []; simpa [namesL] using this
end Go.Proofs.Ytokoneddljheaaa
