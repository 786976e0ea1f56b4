/- A region that draws its order, whose last operations come one behind the other: these may turn memory. No program is named here. -/
import Derived.Test.YtldnlbcibmmbbaaRRel
import Derived.Test.YtldnlbcibmmbbaaRAbsS

/-! A region that draws its order, whose last operations come one behind the other: these may turn memory. No program is named here. -/
set_option linter.unusedSimpArgs false
set_option linter.unusedVariables false
namespace Go.Proofs.Ytldnlbcibmmbbaa
open Go.RowKit

section
variable {P : Program} {ops : Array Oper}

def pairT (ops : Array Oper) (m i j : Nat) : Bool :=
 match ops[i]?, ops[j]? with
 | some oi, some oj => (decide (m ≤ j) || depB ops j i || oi.apart ops oj) && !depB ops i j && (match oi.dst with | some d => oj.dst != some d | none => true) && (decide (m ≤ j) || match oj.dst with | some d => !(oi.looksAt ops).contains d | none => true)
 | _, _ => true
def relTB (ops : Array Oper) (m : Nat) : Bool :=
 Region.noSelect ops && decide (m < ops.size) && (List.range ops.size).all (fun j => (List.range j).all (fun i => pairT ops m i j) && (!depB ops j j && farB ops j)) &&
 (List.range ops.size).all (fun t => decide (t < m) || (List.range t).all (fun i => (List.range (t + 1)).any (fun i' => decide (i < i') && depB ops i' i)))

def frS (b : Bool) (n : Nat) (S : Spec) : Spec := ⟨fun v w => S.p v w ∧ (b = true → ∀ k, blkOf v = some k → n ≤ k), fun v w w' hb h => ⟨S.st v w w' hb h.1, h.2⟩⟩
def relOblF (P : Program) (ops : Array Oper) (L : List Spec) (fr : Nat → Bool) (w0 : World) (Q : Exit → Act → World → Prop) : List Oper → Nat → ((Nat → Value) → Act) → Prop
 | [], k, A => ∀ x w, Below w0.heap.size w0 w → (∀ i, i < k → (at' L i).p (x i) w) → (∀ i j, i < k → j < k → i ≠ j → fr i = true → fr j = true → ∀ b, blkOf (x i) = some b → blkOf (x j) ≠ some b) → wpOps P ops Q (List.range' k (ops.size - k)) (A x) w
 | o :: l, k, A => (∀ x w, Below w0.heap.size w0 w → (∀ i, depB ops k i = true → (at' L i).p (x i) w) → (∀ i j, depB ops k i = true → depB ops k j = true → i ≠ j → fr i = true → fr j = true → ∀ b, blkOf (x i) = some b → blkOf (x j) ≠ some b) → StepR P ops (frS (fr k) w.heap.size (at' L k)) o (A x) w) ∧ relOblF P ops L fr w0 Q l (k + 1) (fun x => (A x).put o.dst (x k))
theorem StepR.frS {S : Spec} {o : Oper} {a : Act} {w : World} {n : Nat} (h : StepR P ops S o a w) : StepR P ops (frS false n S) o a w := by
 rcases h with ⟨h1, h2⟩ | ⟨h1, h2⟩
 ·refine .inl ⟨h1, ?_⟩
  revert h2
  generalize (execOp a.eval o).run P w = r
  intro h2
  cases r with
  | halt _ _ => exact h2.elim
  | ok n w' =>
   cases n <;> first | exact h2.elim | skip
   case value u => exact ⟨⟨h2.1, fun h => by cases h⟩, h2.2⟩
   case skip => exact ⟨⟨h2.1, fun h => by cases h⟩, h2.2⟩
   case enter f args =>
    refine Calls.mono h2 fun e w'' he => ?_
    obtain ⟨v, rfl, hv, hb⟩ := he
    exact ⟨v, rfl, ⟨hv, fun h => by cases h⟩, hb⟩
 ·exact .inr ⟨h1, h2, fun h => by cases h⟩

theorem relOblF_get {l : List Oper} {L : List Spec} {fr : Nat → Bool} {w0 : World} {Q : Exit → Act → World → Prop} {a0 : Act} (hA : Apart2 l) {m0 : Nat} (hm : m0 ≤ l.length) : ∀ (l' : List Oper) (k : Nat) (A : (Nat → Value) → Act), (l.take m0).drop k = l' → k ≤ m0 → (A = fun x => sel (fun i => decide (i < k)) x l 0 a0) →
  relOblF P l.toArray L fr w0 Q l' k A → (∀ j o, k ≤ j → j < m0 → l[j]? = some o → ∀ x w, Below w0.heap.size w0 w → (∀ i, depB l.toArray j i = true → (at' L i).p (x i) w) → (∀ i i', depB l.toArray j i = true → depB l.toArray j i' = true → i ≠ i' → fr i = true → fr i' = true → ∀ b, blkOf (x i) = some b → blkOf (x i') ≠ some b) → StepR P l.toArray (frS (fr j) w.heap.size (at' L j)) o (sel (fun i => decide (i < j)) x l 0 a0) w) ∧ ∀ x w, Below w0.heap.size w0 w → (∀ i, i < m0 → (at' L i).p (x i) w) → (∀ i j, i < m0 → j < m0 → i ≠ j → fr i = true → fr j = true → ∀ b, blkOf (x i) = some b → blkOf (x j) ≠ some b) → wpOps P l.toArray Q (List.range' m0 (l.length - m0)) (sel (fun i => decide (i < m0)) x l 0 a0) w
 | [], k, A, hl, hk, hAx, h => by
  have h1 : k = m0 := by have := congrArg List.length hl; simp at this; omega
  subst h1; subst hAx
  refine ⟨fun j o h1 h2 => by omega, fun x w h1 h2 h3 => ?_⟩
  have := h x w h1 h2 h3
  simpa using this
 | o :: l', k, A, hl, hk, hAx, h => by
  have h1 : k < m0 := by have := congrArg List.length hl; simp at this; omega
  have h2 : l[k]? = some o := by
   have := congrArg (fun m => m[0]?) hl
   simp only [List.getElem?_drop, Nat.add_zero, List.getElem?_cons_zero] at this
   rwa [List.getElem?_take_of_lt h1] at this
  subst hAx
  have hrec := relOblF_get hA hm l' (k + 1) _ (by have := congrArg List.tail hl; simpa using this) h1 (by
   funext x
   have hi := sel_ins (s := fun i => decide (i < k)) (x := x) (v := x k) l 0 k a0 hA h2 (by simp)
   rw [Nat.zero_add] at hi
   rw [← hi]
   refine sel_congr l 0 a0 (fun i _ _ => ?_)
   by_cases hik : i = k
   ·subst hik; simp [updB, updV]
   ·have : (i < k + 1) = (i < k) := by apply propext; omega
    simp [updB, updV, hik, this]) h.2
  refine ⟨fun j o' hj hjm ho => ?_, hrec.2⟩
  by_cases hjk : j = k
  ·subst hjk
   rw [h2] at ho; cases ho
   exact h.1
  ·exact hrec.1 j o' (by omega) hjm ho

theorem unl_from {s : Nat → Bool} : ∀ n m, m ≤ n → (∀ i, m ≤ i → i < n → s i = false) → n - m ≤ unl s n
 | 0, m, _, _ => by omega
 | n + 1, m, h, hs => by
  rcases Nat.lt_or_ge n m with q | q
  ·omega
  ·have := unl_from (s := s) n m q (fun i h1 h2 => hs i h1 (by omega))
   rw [unl, hs n q (by omega)]; simp; omega

theorem tail_run {l : List Oper} {m0 : Nat} {Q : Exit → Act → World → Prop} (hnext : ∀ t, m0 ≤ t → t < l.length → ∀ i, i < t → ∃ i', i' ≤ t ∧ i < i' ∧ depB l.toArray i' i = true)
  (hback : ∀ i j oi oj, i < j → l[i]? = some oi → l[j]? = some oj → depB l.toArray i j = false) (hself : ∀ j, j < l.length → depB l.toArray j j = false) (hfar : ∀ (j : Nat) (o : Oper), l[j]? = some o → ∀ e ∈ o.after, e.on < l.length) :
  ∀ (fuel k : Nat) (listed : Array Bool) (a : Act) (w : World), listed.size = l.length → m0 ≤ k → k ≤ l.length → (∀ i, listed.getD i false = decide (i < k)) → l.length - k ≤ fuel →
   wpOps P l.toArray Q (List.range' k (l.length - k)) a w → wpAny P .any l.toArray Q fuel listed a w := by
 intro fuel
 induction fuel with
 | zero =>
  intro k listed a w hsz hm hk hl hf h
  have e : k = l.length := by omega
  subst e
  rw [Nat.sub_self] at h
  refine ⟨?_, by simpa [wpOps] using h⟩
  refine List.eq_nil_iff_forall_not_mem.2 (fun i hi => ?_)
  obtain ⟨g1, o, g2, -⟩ := mem_ready.1 hi
  have hil : i < l.length := (List.getElem?_eq_some_iff.1 (show l[i]? = some o by simpa using g2)).1
  have his : i < listed.size := by omega
  have g3 := hl i
  rw [show listed.getD i false = false by
   simp only [Array.getD_eq_getD_getElem?, Array.getElem?_eq_getElem his, Option.getD_some] at g1 ⊢; exact g1] at g3
  simp [hil] at g3
 | succ fuel ih =>
  intro k listed a w hsz hm hk hl hf h
  have hread : ∀ j, j ∈ Region.ready .any l.toArray listed → j = k ∧ k < l.length := by
   intro j hj
   obtain ⟨g1, o, g2, g3⟩ := mem_ready.1 hj
   have hoj : l[j]? = some o := by simpa using g2
   have hjl : j < l.length := (List.getElem?_eq_some_iff.1 hoj).1
   have his : j < listed.size := by omega
   have g4 := hl j
   rw [show listed.getD j false = false by
    simp only [Array.getD_eq_getD_getElem?, Array.getElem?_eq_getElem his, Option.getD_some] at g1 ⊢; exact g1] at g4
   have hkj : k ≤ j := by
    rcases Nat.lt_or_ge j k with q | q
    ·simp [q] at g4
    ·exact q
   rcases Nat.eq_or_lt_of_le hkj with e | hlt
   ·exact ⟨e.symm, by omega⟩
   ·exfalso
    have hd : ∀ i, depB l.toArray j i = true → listed.getD i false = true := by
     intro i hi
     simp only [depB, g2, Bool.and_eq_true, beq_iff_eq, Array.any_eq_true'] at hi
     obtain ⟨e, he, hb, rfl⟩ := hi
     exact g3 e he hb
    have hsome : ∀ n i, i + n + 1 = j → k ≤ i → False := by
     intro n
     induction n using Nat.strongRecOn with
     | _ n ihn =>
      intro i hi hki
      obtain ⟨i', q1, q2, q3⟩ := hnext j (by omega) hjl i (by omega)
      by_cases hi' : i' = j
      ·subst hi'
       have := hd i q3
       rw [hl i] at this
       simp at this; omega
      ·exact ihn (j - 1 - i') (by omega) i' (by omega) (by omega)
    exact hsome (j - k - 1) k (by omega) (Nat.le_refl _)
  refine ⟨fun h0 => ?_, fun j hj => ?_⟩
  ·rcases Nat.lt_or_ge k l.length with q | q
   ·exfalso
    have hmem : k ∈ Region.ready .any l.toArray listed := by
     refine mem_ready.2 ⟨?_, l[k], by simp [q], fun e he hb => ?_⟩
     ·have hms : k < listed.size := by omega
      have := hl k
      simp [hms] at this ⊢; exact this
     ·have hd : depB l.toArray k e.on = true := by
       have : l.toArray[k]? = some l[k] := by simp [q]
       simp only [depB, this]
       simp only [Array.any_eq_true', Bool.and_eq_true, beq_iff_eq]
       exact ⟨e, he, hb, rfl⟩
      rcases Nat.lt_trichotomy e.on k with h' | h' | h'
      ·rw [hl]; simpa using h'
      ·rw [h', hself k q] at hd; cases hd
      ·by_cases hl' : e.on < l.length
       ·have := hback k e.on l[k] l[e.on] h' (by simp [q]) (by simp [hl'])
        rw [hd] at this; cases this
       ·exact absurd (hfar k l[k] (by simp [q]) e he) hl'
    rw [h0] at hmem; cases hmem
   ·have e : k = l.length := by omega
    subst e
    rw [Nat.sub_self] at h
    simpa [wpOps] using h
  ·obtain ⟨rfl, hlt⟩ := hread j hj
   have e : l.length - j = (l.length - (j + 1)) + 1 := by omega
   rw [e, List.range'_succ, wpOps_cons] at h
   refine wpOp_mono (fun a' w' h' => ih (j + 1) _ a' w' (by simpa using hsz) (by omega) hlt (fun i => ?_) (by omega) h') h
   by_cases hij : i = j
   ·subst hij
    have : i < listed.size := by omega
    simp [this]
   ·rw [show (listed.setIfInBounds j true).getD i false = listed.getD i false from getD_set_ne false (Ne.symm hij), hl i]
    have : (i < j + 1) = (i < j) := by apply propext; omega
    simp [this]

theorem any_region_tailF {Q : Exit → Act → World → Prop} {a : Act} {w : World} {l : List Oper} (L : List Spec) (fr : Nat → Bool) (hfr : ∀ i v w, fr i = true → (at' L i).p v w → ∀ b, blkOf v = some b → b < w.heap.size) (m0 : Nat) (hB : relTB l.toArray m0 = true)
  (h : relOblF P l.toArray L fr w.drew Q (l.take m0) 0 (fun _ => a)) : wpAny P .any l.toArray Q l.toArray.size (Array.replicate l.toArray.size false) a w.drew := by
 simp only [relTB, Bool.and_eq_true, List.all_eq_true, List.mem_range, List.size_toArray, decide_eq_true_eq] at hB
 obtain ⟨⟨⟨hns, hm0⟩, hall⟩, htail⟩ := hB
 have hsel := Region.noSelect_spec hns
 have hpair : ∀ i j oi oj, i < j → l[i]? = some oi → l[j]? = some oj → (j < m0 → depB l.toArray j i = true ∨ oi.apart l.toArray oj = true) ∧ depB l.toArray i j = false ∧ (∀ e, oi.dst = some e → oj.dst ≠ some e) ∧ (j < m0 → ∀ e, oj.dst = some e → e ∉ oi.looksAt l.toArray) := by
  intro i j oi oj hij hi hj
  have hjn := (List.getElem?_eq_some_iff.1 hj).1
  have := (hall j hjn).1 i hij
  simp only [pairT, List.getElem?_toArray, hi, hj, Bool.and_eq_true, Bool.or_eq_true, Bool.not_eq_true', decide_eq_true_eq] at this
  refine ⟨fun hlt => ?_, this.1.1.2, fun e he => ?_, fun hlt e he => ?_⟩
  ·rcases this.1.1.1 with (h | h) | h
   ·omega
   ·exact .inl h
   ·exact .inr h
  ·have h3 := this.1.2
   rw [he] at h3
   simpa using h3
  ·have h3 := this.2
   rw [he] at h3
   rcases h3 with h3 | h3
   ·omega
   ·simpa using h3
 have hself : ∀ j, j < l.length → depB l.toArray j j = false := fun j hj => by simpa using (hall j hj).2.1
 have hfar : ∀ (j : Nat) (o : Oper), l[j]? = some o → ∀ e ∈ o.after, e.on < l.length := fun j o hj e he => by
  have := (hall j (List.getElem?_eq_some_iff.1 hj).1).2.2
  simp only [farB, List.getElem?_toArray, hj, Array.all_eq_true_iff_forall_mem] at this
  simpa using this e he
 have hnext : ∀ t, m0 ≤ t → t < l.length → ∀ i, i < t → ∃ i', i' ≤ t ∧ i < i' ∧ depB l.toArray i' i = true := fun t ht htl i hit => by
  have := htail t htl
  simp only [Bool.or_eq_true, decide_eq_true_eq, List.all_eq_true, List.any_eq_true, List.mem_range, Bool.and_eq_true] at this
  rcases this with h | h
  ·omega
  ·obtain ⟨i', h1, h2, h3⟩ := h i hit
   exact ⟨i', by omega, h2, h3⟩
 have hA : Apart2 l := fun i j oi oj hi hj hij e he => by
  rcases Nat.lt_or_gt_of_ne hij with h | h
  ·exact (hpair i j oi oj h hi hj).2.2.1 e he
  ·intro h2
   exact (hpair j i oj oi h hj hi).2.2.1 e h2 he
 have hO := relOblF_get (P := P) (L := L) (fr := fr) (w0 := w.drew) (Q := Q) (a0 := a) hA (m0 := m0) (by omega) (l.take m0) 0 (fun _ => a) (by simp) (Nat.zero_le _) (by
  funext x
  exact (show a = sel (fun _ => false) x l 0 a from by
   have : ∀ (l : List Oper) k, a = sel (fun _ => false) x l k a := by
    intro l
    induction l with
    | nil => intro k; rfl
    | cons o l ih => intro k; rw [sel]; exact ih (k + 1)
   exact this l 0).trans (sel_congr l 0 a (fun i _ _ => by simp))) h
 -- what an operation looks at lies among those it comes behind
 have hloose : ∀ i j oi oj, i < m0 → j < m0 → l[i]? = some oi → l[j]? = some oj → i ≠ j → depB l.toArray j i = false → ∀ d, oi.dst = some d → d ∉ oj.looksAt l.toArray := by
  intro i j oi oj him hjm hi hj hij hd
  rcases Nat.lt_or_gt_of_ne hij with h | h
  ·rcases (hpair i j oi oj h hi hj).1 hjm with h1 | h1
   ·rw [hd] at h1; cases h1
   ·exact (Oper.apart_spec h1).1
  ·exact (hpair j i oj oi h hj hi).2.2.2 him
 -- an operation sees no more than what it comes behind
 have hsee : ∀ (s s' : Nat → Bool) x j oj, (∀ i, m0 ≤ i → s i = false ∧ s' i = false) → j < m0 → l[j]? = some oj → s j = false → s' j = false → (∀ i, i < l.length → depB l.toArray j i = true → s i = true ∧ s' i = true) →
   execOp (sel s x l 0 a).eval oj = execOp (sel s' x l 0 a).eval oj ∧ Region.wanted oj (yielded l.toArray (sel s x l 0 a).tmps) = Region.wanted oj (yielded l.toArray (sel s' x l 0 a).tmps) := by
  intro s s' x j oj hst hjm hj h1 h2 hd
  have one := fun (s : Nat → Bool) (hs0 : ∀ i, m0 ≤ i → s i = false) (hs : s j = false) => sel_strip (ops := l.toArray) (s := s) (keep := depB l.toArray j) (x := x) (a := a) hA (fun cs b => hsel j oj cs b (by simpa using hj))
   (fun i oi hi hsi hk => hloose i j oi oj (by rcases Nat.lt_or_ge i m0 with q | q; exact q; rw [hs0 i q] at hsi; cases hsi) hjm hi hj (by intro e; subst e; rw [hsi] at hs; cases hs) hk)
  obtain ⟨a1, a2⟩ := one s (fun i hi => (hst i hi).1) h1
  obtain ⟨b1, b2⟩ := one s' (fun i hi => (hst i hi).2) h2
  have e : sel (fun i => s i && depB l.toArray j i) x l 0 a = sel (fun i => s' i && depB l.toArray j i) x l 0 a := sel_congr l 0 a (fun i _ hi => by
   refine ⟨?_, fun _ => rfl⟩
   cases hk : depB l.toArray j i
   ·simp
   ·obtain ⟨c1, c2⟩ := hd i (by omega) hk
    simp [c1, c2])
  exact ⟨by rw [a1, b1, e], by rw [a2, b2, e]⟩
 have main : ∀ fuel (listed : Array Bool) x w1, listed.size = l.length → Below w.drew.heap.size w.drew w1 → (∀ i, listed.getD i false = true → (at' L i).p (x i) w1) →
   (∀ j i, listed.getD j false = true → depB l.toArray j i = true → listed.getD i false = true) → (∀ i, m0 ≤ i → listed.getD i false = false) → (∀ i j, listed.getD i false = true → listed.getD j false = true → i ≠ j → fr i = true → fr j = true → ∀ b, blkOf (x i) = some b → blkOf (x j) ≠ some b) → unl (fun i => listed.getD i false) l.length ≤ fuel →
   wpAny P .any l.toArray Q fuel listed (sel (fun i => listed.getD i false) x l 0 a) w1 := by
  intro fuel
  induction fuel with
  | zero =>
   intro listed x w1 _ _ _ _ hlast _ hu
   have := unl_pos (s := fun i => listed.getD i false) l.length (i := m0) hm0 (hlast m0 (Nat.le_refl _))
   omega
  | succ fuel ih =>
   intro listed x w1 hsz hE hF hcl hlast hpr hu
   have hmemR : ∀ j, j ∈ Region.ready .any l.toArray listed → ∃ oj, l[j]? = some oj ∧ listed.getD j false = false ∧ ∀ i, depB l.toArray j i = true → listed.getD i false = true := by
    intro j hj
    obtain ⟨h1, o, ho, h3⟩ := mem_ready.1 hj
    refine ⟨o, by simpa using ho, ?_, fun i hi => ?_⟩
    ·rcases Nat.lt_or_ge j listed.size with h' | h'
     ·simp [h'] at h1 ⊢; exact h1
     ·simp [Array.getElem?_eq_none h']
    ·simp only [depB, ho, Bool.and_eq_true, beq_iff_eq, Array.any_eq_true'] at hi
     obtain ⟨e, he, hb, rfl⟩ := hi
     exact h3 e he hb
   refine ⟨fun h0 => ?_, fun j hj => ?_⟩
   ·-- the least one that is not listed is ready
    exfalso
    have hex : ∃ m, m < l.length ∧ listed.getD m false = false ∧ ∀ i, i < m → listed.getD i false = true := by
     have : ∀ k, k ≤ l.length → (∀ i, i < k → listed.getD i false = true) ∨ ∃ m, m < l.length ∧ listed.getD m false = false ∧ ∀ i, i < m → listed.getD i false = true := by
      intro k
      induction k with
      | zero => exact fun _ => .inl (fun i hi => by omega)
      | succ k ihk =>
       intro hk
       rcases ihk (by omega) with h | h
       ·cases hc : listed.getD k false
        ·exact .inr ⟨k, by omega, hc, h⟩
        ·exact .inl (fun i hi => by
          by_cases e : i = k
          ·subst e; exact hc
          ·exact h i (by omega))
       ·exact .inr h
     rcases this l.length (Nat.le_refl _) with h | h
     ·have := h m0 hm0
      rw [hlast m0 (Nat.le_refl _)] at this; cases this
     ·exact h
    obtain ⟨m, hm1, hm2, hm3⟩ := hex
    have hmem : m ∈ Region.ready .any l.toArray listed := by
     refine mem_ready.2 ⟨?_, l[m], by simp [hm1], fun e he hb => ?_⟩
     ·have hms : m < listed.size := by omega
      simp [hms] at hm2 ⊢; exact hm2
     ·have hd : depB l.toArray m e.on = true := by
       have : l.toArray[m]? = some l[m] := by simp [hm1]
       simp only [depB, this]
       simp only [Array.any_eq_true', Bool.and_eq_true, beq_iff_eq]
       exact ⟨e, he, hb, rfl⟩
      rcases Nat.lt_trichotomy e.on m with h | h | h
      ·exact hm3 _ h
      ·rw [h, hself m hm1] at hd; cases hd
      ·by_cases hl : e.on < l.length
       ·have := (hpair m e.on l[m] l[e.on] h (by simp [hm1]) (by simp [hl])).2.1
        rw [hd] at this; cases this
       ·exact absurd (hfar m l[m] (by simp [hm1]) e he) hl
    rw [h0] at hmem; cases hmem
   ·obtain ⟨oj, hoj, hun, hdeps⟩ := hmemR j hj
    have hjl := (List.getElem?_eq_some_iff.1 hoj).1
    have hsj : (listed.setIfInBounds j true).size = l.length := by simpa using hsz
    have hgd : ∀ i, (listed.setIfInBounds j true).getD i false = updB (fun i => listed.getD i false) j i := by
     intro i
     by_cases hij : i = j
     ·subst hij
      have : i < listed.size := by omega
      simp [updB, this]
     ·simp only [updB, if_neg hij]
      exact getD_set_ne false (Ne.symm hij)
    have hup : ∀ t, m0 ≤ t → t < l.length → (∀ i, depB l.toArray t i = true → listed.getD i false = true) → ∀ k i, i + k + 1 = t → listed.getD i false = true := by
     intro t h1 h2 hdt k
     induction k using Nat.strongRecOn with
     | _ k ihk =>
      intro i hi
      obtain ⟨i', q1, q2, q3⟩ := hnext t h1 h2 i (by omega)
      by_cases hi' : i' = t
      ·subst hi'; exact hdt i q3
      ·exact hcl i' i (ihk (t - 1 - i') (by omega) i' (by omega)) q3
    by_cases hjn : m0 ≤ j
    ·-- the tail begins
     have hj0 : j = m0 := by
      rcases Nat.eq_or_lt_of_le hjn with e | hlt
      ·exact e.symm
      ·have := hup j hjn hjl hdeps (j - m0 - 1) m0 (by omega)
       rw [hlast m0 (Nat.le_refl _)] at this; cases this
     subst hj0
     have hall' : ∀ i, i < j → listed.getD i false = true := fun i hi => hup j hjn hjl hdeps (j - i - 1) i (by omega)
     have h2 := hO.2 x w1 hE (fun i hi => hF i (hall' i hi)) (fun i k hi hk => hpr i k (hall' i hi) (hall' k hk))
     have e : sel (fun i => decide (i < j)) x l 0 a = sel (fun i => listed.getD i false) x l 0 a := sel_congr l 0 a (fun i _ hi => by
      refine ⟨?_, fun _ => rfl⟩
      by_cases hij : i < j
      ·simp only [hij, decide_true]; exact (hall' i hij).symm
      ·simp only [hij, decide_false]; exact (hlast i (by omega)).symm)
     rw [e] at h2
     have hrun := tail_run (P := P) (Q := Q) (l := l) (m0 := j) (fun t h1 h2 => hnext t h1 h2) (fun i k oi ok hik h1 h2 => (hpair i k oi ok hik h1 h2).2.1) hself hfar (fuel + 1) j listed _ w1 hsz (Nat.le_refl _) (Nat.le_of_lt hjl) (fun i => by
      by_cases hij : i < j
      ·simp only [hij, decide_true]; exact hall' i hij
      ·simp only [hij, decide_false]; exact hlast i (by omega)) (by
      have := unl_from (s := fun i => listed.getD i false) l.length j (Nat.le_of_lt hjl) (fun i h1 _ => hlast i h1)
      omega) h2
     exact hrun.2 j hj
    ·have hjm : j < m0 := by omega
     have hst := hO.1 j oj (Nat.zero_le _) hjm hoj x w1 hE (fun i hi => hF i (hdeps i hi)) (fun i k hi hk => hpr i k (hdeps i hi) (hdeps k hk))
     unfold wpOp
     simp only [List.getElem?_toArray, hoj]
     obtain ⟨c1, c2⟩ := hsee (fun i => listed.getD i false) (fun i => decide (i < j)) x j oj (fun i hi => ⟨hlast i hi, by simp; omega⟩) hjm hoj hun (by simp) (fun i hi hd => ⟨hdeps i hd, by
      rcases Nat.lt_trichotomy i j with h | h | h
      ·simpa using h
      ·rw [h, hself j hjl] at hd; cases hd
      ·have := (hpair j i oj l[i] h hoj (by simp [hi])).2.1
       rw [hd] at this; cases this⟩)
     have next : ∀ v w2, (frS (fr j) w1.heap.size (at' L j)).p v w2 → Below w1.heap.size w1 w2 → wpAny P .any l.toArray Q fuel (listed.setIfInBounds j true) ((sel (fun i => listed.getD i false) x l 0 a).put oj.dst v) w2 := by
      intro v w2 hvf hb
      obtain ⟨hv, hvn⟩ := hvf
      have hi := sel_ins (s := fun i => listed.getD i false) (x := x) (v := v) l 0 j a hA hoj (by simpa using hun)
      rw [Nat.zero_add] at hi
      rw [← hi, ← show (fun i => (listed.setIfInBounds j true).getD i false) = updB (fun i => listed.getD i false) j from funext hgd]
      refine ih _ _ w2 hsj (belowT hE hb) (fun i hi' => ?_) (fun j' i hj' hd => ?_) ?_ ?_ ?_
      ·rw [hgd] at hi'
       by_cases hij : i = j
       ·subst hij; simpa [updV] using hv
       ·simp only [updB, if_neg hij] at hi'
        simp only [updV, if_neg hij]
        exact (at' L i).st _ _ _ hb (hF i hi')
      ·rw [hgd] at hj' ⊢
       by_cases hij : i = j
       ·simp [updB, hij]
       ·simp only [updB, if_neg hij]
        by_cases hj2 : j' = j
        ·subst hj2; exact hdeps i hd
        ·simp only [updB, if_neg hj2] at hj'
         exact hcl j' i hj' hd
      ·intro i hi
       rw [hgd]
       have : i ≠ j := by omega
       simp only [updB, if_neg this]; exact hlast i hi
      ·intro i k hi hk hik fi fk b hbi hbk
       rw [hgd] at hi hk
       have old : ∀ i, updB (fun i => listed.getD i false) j i = true → i ≠ j → listed.getD i false = true := fun i h1 h2 => by simpa only [updB, if_neg h2] using h1
       by_cases hij : i = j
       ·subst hij
        have hkj : k ≠ i := fun e => hik e.symm
        simp only [updV, if_true, if_neg hkj] at hbi hbk
        have := hfr k _ w1 fk (hF k (old k hk hkj)) b hbk
        have := hvn fi b hbi
        omega
       ·by_cases hkj : k = j
        ·subst hkj
         simp only [updV, if_true, if_neg hij] at hbi hbk
         have := hfr i _ w1 fi (hF i (old i hi hij)) b hbi
         have := hvn fk b hbk
         omega
        ·simp only [updV, if_neg hij, if_neg hkj] at hbi hbk
         exact hpr i k (old i hi hij) (old k hk hkj) hik fi fk b hbi hbk
      ·rw [unl_congr (s' := updB (fun i => listed.getD i false) j) l.length (fun i _ => hgd i)]
       have := unl_upd (s := fun i => listed.getD i false) (i := j) l.length hjl hun
       omega
     unfold StepR at hst
     rw [← c1, ← c2] at hst
     rcases hst with ⟨h1, h2⟩ | ⟨h1, h2⟩
     ·rw [if_pos h1]
      refine .inl ?_
      unfold Oper.wp
      generalize (execOp (sel (fun i => listed.getD i false) x l 0 a).eval oj).run P w1 = r at h2
      cases r with
      | halt _ _ => exact h2.elim
      | ok n w' =>
       cases n <;> first | exact h2.elim | skip
       case value u => exact next _ _ h2.1 h2.2
       case skip => exact next _ _ h2.1 h2.2
       case enter f args =>
        refine Calls.mono h2 fun e w'' he => ?_
        obtain ⟨v, rfl, hv, hb⟩ := he
        exact next _ _ hv hb
     ·rw [if_neg (by rw [h1]; decide)]
      exact next _ _ h2 (Below.refl _ _)
 have hrep : ∀ i, (Array.replicate l.toArray.size false).getD i false = false := fun i => by
  simp only [Array.getD_eq_getD_getElem?, Array.getElem?_replicate]; split <;> rfl
 have h0 := main l.toArray.size (Array.replicate l.toArray.size false) (fun _ => undef) w.drew (by simp) (Below.refl _ _)
  (fun i hi => by rw [hrep] at hi; cases hi) (fun j i hj => by rw [hrep] at hj; cases hj) (fun i _ => hrep i) (fun i j hi => by rw [hrep] at hi; cases hi) (unl_le _)
 have e : sel (fun i => (Array.replicate l.toArray.size false).getD i false) (fun _ => undef) l 0 a = a := by
  have : ∀ (l' : List Oper) k, sel (fun i => (Array.replicate l.toArray.size false).getD i false) (fun _ => undef) l' k a = a := by
   intro l'
   induction l' with
   | nil => intro k; rfl
   | cons o l' ih => intro k; rw [sel, hrep]; exact ih (k + 1)
  exact this l 0
 rw [e] at h0
 exact h0
end
end Go.Proofs.Ytldnlbcibmmbbaa

/-! The abstract walk: regions that draw their order, whose last operations come one behind the other. -/
set_option linter.unusedSimpArgs false
set_option linter.unusedVariables false
namespace Go.Proofs.Ytldnlbcibmmbbaa
open Go.RowKit

section
variable {D : Nat → Prop} {nu : Nat → Nat → Value} {o : List (Option AObj)} {w : World} {P : Program}

def AStepD (P : Program) (all : List Oper) (oo : Oper) (s : AS) (K : AS → Prop) : Prop := match oo.guard with
 | none => ADo P oo.op s (fun r o' => K (s.put oo.dst r o'))
 | some (j, want) => AGd (gval all s j) want (ADo P oo.op s (fun r o' => K (s.put oo.dst r o'))) (K (s.put oo.dst (.v Go.undef) s.o))
def ATail (P : Program) (all : List Oper) : List Oper → AS → (AS → Prop) → Prop
 | [], s, Q => Q s
 | oo :: rest, s, Q => AStepD P all oo s (fun s' => ATail P all rest s' Q)
def ADrawT (P : Program) (all tail : List Oper) : List Oper → AS → (AS → Prop) → Prop
 | [], s, Q => ATail P all tail s Q
 | oo :: rest, s, Q => match oo.guard with
  | none => ADoS P oo.op s (fun r => ADrawT P all tail rest (s.put oo.dst r s.o) Q)
  | some (j, want) => AGd (gval all s j) want (ADoS P oo.op s (fun r => ADrawT P all tail rest (s.put oo.dst r s.o) Q)) (ADrawT P all tail rest (s.put oo.dst (.v Go.undef) s.o) Q)

theorem atail_good {f : Fr} {l : List Oper} {R : Exit → Act → World → Prop} : ∀ (tail : List Oper) (k : Nat) (s : AS) (a : Act) (w : World) (nu : Nat → Nat → Value), l.drop k = tail → k ≤ l.length → RS f D nu s a w → ∀ {Q : AS → Prop}, ATail P l tail s Q →
  (∀ s' a' w' nu', Mono nu s.o w nu' s'.o w' → s'.y = s.y → RS f D nu' s' a' w' → Q s' → R .normal a' w') → wpOps P l.toArray R (List.range' k (l.length - k)) a w
 | [], k, s, a, w, nu, hl, hk, hs, Q, h, hR => by
  have e : k = l.length := by have := congrArg List.length hl; simp at this; omega
  subst e
  rw [Nat.sub_self]
  simpa [wpOps] using hR s a w nu (.refl _ _ _) rfl hs h
 | oo :: rest, k, s, a, w, nu, hl, hk, hs, Q, h, hR => by
  have hlt : k < l.length := by have := congrArg List.length hl; simp at this; omega
  have hok : l[k]? = some oo := by have := congrArg (fun m => m[0]?) hl; simpa using this
  have hl' : l.drop (k + 1) = rest := by have := congrArg List.tail hl; simpa using this
  have e : l.length - k = (l.length - (k + 1)) + 1 := by omega
  rw [e, List.range'_succ, wpOps_cons]
  unfold wpOp
  simp only [List.getElem?_toArray, hok]
  have hdo : ADo P oo.op s (fun r o' => ATail P l rest (s.put oo.dst r o') Q) → Region.wanted oo (yielded l.toArray a.tmps) = true → (if Region.wanted oo (yielded l.toArray a.tmps) = true then oo.wp P a w (wpOps P l.toArray R (List.range' (k + 1) (l.length - (k + 1)))) R ∨ oo.asks P a w ∧ LetsOut R else wpOps P l.toArray R (List.range' (k + 1) (l.length - (k + 1))) (a.put oo.dst Go.undef) w) := by
   intro hd hw
   rw [if_pos hw]
   exact .inl (ado_good (P := P) hs.ro (fun y _ => hs.ev y) hd (fun v w' nu' r o' m1 m2 m3 m4 => atail_good rest (k + 1) (s.put oo.dst r o') _ w' nu' hl' hlt (hs.put m1 m2 m3 oo.dst) m4 (fun s' a' w2 nu2 q1 q2 q3 q4 => hR s' a' w2 nu2 (by simpa only [AS.put] using m1.trans q1) (q2.trans rfl) q3 q4)))
  have hskip : ATail P l rest (s.put oo.dst (.v Go.undef) s.o) Q → Region.wanted oo (yielded l.toArray a.tmps) = false → (if Region.wanted oo (yielded l.toArray a.tmps) = true then oo.wp P a w (wpOps P l.toArray R (List.range' (k + 1) (l.length - (k + 1)))) R ∨ oo.asks P a w ∧ LetsOut R else wpOps P l.toArray R (List.range' (k + 1) (l.length - (k + 1))) (a.put oo.dst Go.undef) w) := by
   intro hd hw
   rw [if_neg (by rw [hw]; decide)]
   exact atail_good rest (k + 1) (s.put oo.dst (.v Go.undef) s.o) _ w nu hl' hlt (hs.put (.refl _ _ _) hs.ro (.v _) oo.dst) hd (fun s' a' w2 nu2 q1 q2 q3 q4 => hR s' a' w2 nu2 (by simpa only [AS.put] using q1) (q2.trans rfl) q3 q4)
  simp only [ATail, AStepD] at h
  split at h
  ·rename_i hg
   exact hdo h (by simp [Region.wanted, hg])
  ·rename_i j want hg
   have hyv : ∀ g, gval l s j = some g → yielded l.toArray a.tmps j = g := fun g hgv => gval_good (D := D) (nu := nu) (w := w) (fun d c v hd h1 h2 => hs.tm.at' d c v h1 h2) hs.tm.len hgv
   unfold AGd at h
   split at h
   ·rename_i b e
    cases hb : b == want
    ·rw [hb] at h
     exact hskip h (by simp only [Region.wanted, hg, hyv _ e]; simpa using hb)
    ·rw [hb] at h
     exact hdo h (by simp only [Region.wanted, hg, hyv _ e]; simpa using hb)
   ·rename_i e
    exact hskip h (by simp only [Region.wanted, hg, hyv _ e]; rfl)
   ·exact h.elim

theorem relTB_pair {l : List Oper} {m0 : Nat} (hB : relTB l.toArray m0 = true) {i j : Nat} {oi oj : Oper} (hij : i < j) (hi : l[i]? = some oi) (hj : l[j]? = some oj) (hjm : j < m0) : depB l.toArray j i = true ∨ ∀ d, oi.dst = some d → d ∉ oj.looksAt l.toArray := by
 simp only [relTB, Bool.and_eq_true, List.all_eq_true, List.mem_range, List.size_toArray] at hB
 have hjn := (List.getElem?_eq_some_iff.1 hj).1
 have := (hB.1.2 j hjn).1 i hij
 simp only [pairT, List.getElem?_toArray, hi, hj, Bool.and_eq_true, Bool.or_eq_true, Bool.not_eq_true', decide_eq_true_eq] at this
 rcases this.1.1.1 with (h | h) | h
 ·omega
 ·exact .inl h
 ·exact .inr (Oper.apart_spec h).1

/-! ### by itself: the tail begins at the first operation that turns memory -/
def isEff : Op → Bool
 | .alloc _ | .store .. | .mapUpdate .. | .makeSlice .. | .makeMap .. => true
 | .call c => match c.callee with
  | .builtin .append | .builtin .copy | .builtin .delete | .builtin .clear => true
  | _ => false
 | _ => false
def ADrawE (P : Program) (all : List Oper) : List Oper → AS → (AS → Prop) → Prop
 | [], s, Q => Q s
 | oo :: rest, s, Q => if isEff oo.op then ATail P all (oo :: rest) s Q else AStepS P all oo s (fun s' => ADrawE P all rest s' Q)
theorem adrawE_nil {all : List Oper} {s : AS} {Q : AS → Prop} (h : Q s) : ADrawE P all [] s Q := h
theorem atail_k {all rest : List Oper} {oo : Oper} {s : AS} {Q : AS → Prop} (h : ∀ K : AS → Prop, (∀ s', ATail P all rest s' Q → K s') → AStepD P all oo s K) : ATail P all (oo :: rest) s Q := h _ (fun _ h => h)
theorem atail_nil {all : List Oper} {s : AS} {Q : AS → Prop} (h : Q s) : ATail P all [] s Q := h
theorem adrawT_k {all tail rest : List Oper} {oo : Oper} {s : AS} {Q : AS → Prop} (h : ∀ K : AS → Prop, (∀ s', ADrawT P all tail rest s' Q → K s') → AStepS P all oo s K) : ADrawT P all tail (oo :: rest) s Q := by
 have := h _ (fun _ h => h)
 unfold AStepS at this
 simp only [ADrawT]
 split at this <;> simp_all
theorem adrawT_nil {all tail : List Oper} {s : AS} {Q : AS → Prop} (h : ATail P all tail s Q) : ADrawT P all tail [] s Q := h
@[go_sem] theorem astepd_plain (all : List Oper) (dst : Option Tmp) (op : Op) (ty : TypeId) (pos : String) (aft : Array Edge) (s : AS) (K : AS → Prop) :
  AStepD P all ⟨dst, op, ty, pos, aft, none⟩ s K = ADo P op s (fun r o' => K (s.put dst r o')) := rfl
@[go_sem] theorem astepd_guard (all : List Oper) (dst : Option Tmp) (op : Op) (ty : TypeId) (pos : String) (aft : Array Edge) (j : Nat) (want : Bool) (s : AS) (K : AS → Prop) :
  AStepD P all ⟨dst, op, ty, pos, aft, some (j, want)⟩ s K = AGd (gval all s j) want (ADo P op s (fun r o' => K (s.put dst r o'))) (K (s.put dst (.v Go.undef) s.o)) := rfl
end
end Go.Proofs.Ytldnlbcibmmbbaa

/-! The abstract walk: its rules, found by the form of what is asked. -/
set_option linter.unusedSimpArgs false
set_option linter.unusedVariables false
namespace Go.Proofs.Ytldnlbcibmmbbaa
open Go.RowKit

class Stp (G : Prop) (H : outParam Prop) : Prop where
 up : H → G

section
variable {P : Program} {all rest tail : List Oper} {n0 : Nat} {s : AS} {Q : AExit → AS → Prop} {R K : AS → Prop} {oo o2 : Oper} {i : Nat} {c d : Code} {x : Operand} {l : List Oper} {bx : List Bx} {k : Nat}
instance : Stp (AOps P all [] s R) (R s) := ⟨aops_nil⟩
instance : Stp (AOps P all (oo :: rest) s R) (∀ K : AS → Prop, (∀ s', AOps P all rest s' R → K s') → AStep P all oo s K) := ⟨aops_k⟩
instance {dst : Option Tmp} {op : Op} {ty : TypeId} {pos : String} {aft : Array Edge} : Stp (ADraw P all [⟨dst, op, ty, pos, aft, none⟩] s R) (∀ K : AS → Prop, (∀ s', R s' → K s') → ADo P op s (fun r o' => K (s.put dst r o'))) := ⟨adraw_last⟩
instance : Stp (ADraw P all (oo :: o2 :: rest) s R) (∀ K : AS → Prop, (∀ s', ADraw P all (o2 :: rest) s' R → K s') → AStepS P all oo s K) := ⟨adraw_k⟩
instance : Stp (AWp P n0 (.seq c d) s Q) (∀ K : AS → Prop, (∀ s', AWp P n0 d s' Q → K s') → AWp P n0 c s (ASeq K Q)) := ⟨awp_seq⟩
instance : Stp (AWp P n0 (.region i l.toArray false) s Q) (AOps P l l s (Q .normal)) := ⟨awp_region⟩
instance : Stp (AWp P n0 .skip s Q) (Q .normal s) := ⟨awp_skip⟩
instance : Stp (AWp P n0 (.block i c) s Q) (AWp P n0 c s (ABlk i Q)) := ⟨awp_block⟩
instance : Stp (AWp P n0 (.cond x c d) s Q) (ACnd (s.ev x) (AWp P n0 c s Q) (AWp P n0 d s Q)) := ⟨awp_cond⟩
instance : Stp (AWp P n0 (.exit i) s Q) (Q (.exit i) s) := ⟨awp_exit⟩
instance : Stp (AWp P n0 .ret s Q) (Q .ret s) := ⟨awp_ret⟩
instance : Stp (AWp P n0 (.scope c) s Q) (AWp P n0 c s (AScp Q)) := ⟨awp_scope⟩
instance : Stp (AWp P n0 (.label i) s Q) (Q .normal s) := ⟨awp_label⟩
instance : Stp (AWp P n0 (.goto i) s Q) (Q (.goto i) s) := ⟨awp_goto⟩
instance : Stp (ASeq K Q .normal s) (K s) := ⟨aseq_normal⟩
instance : Stp (ASeq K Q (.exit i) s) (Q (.exit i) s) := ⟨aseq_exit⟩
instance : Stp (ASeq K Q .ret s) (Q .ret s) := ⟨aseq_ret⟩
instance : Stp (ASeq K Q (.goto i) s) (Q (.goto i) s) := ⟨aseq_goto⟩
instance : Stp (ABlk i Q .normal s) (Q .normal s) := ⟨ablk_normal⟩
instance : Stp (ABlk i Q .ret s) (Q .ret s) := ⟨ablk_ret⟩
instance : Stp (ABlk i Q (.goto k) s) (Q (.goto k) s) := ⟨ablk_goto⟩
instance : Stp (ABlk i Q (.exit k) s) (if k = i then Q .normal s else Q (.exit k) s) := ⟨fun h => h⟩
instance : Stp (AScp Q .normal s) (Q .normal s) := ⟨ascp_normal⟩
instance : Stp (AScp Q .ret s) (Q .ret s) := ⟨ascp_ret⟩
instance : Stp (AScp Q (.exit i) s) (Q (.exit i) s) := ⟨ascp_exit⟩
instance : Stp (ADrawE P all [] s R) (R s) := ⟨adrawE_nil⟩
instance : Stp (ATail P all [] s R) (R s) := ⟨atail_nil⟩
instance : Stp (ATail P all (oo :: rest) s R) (∀ K : AS → Prop, (∀ s', ATail P all rest s' R → K s') → AStepD P all oo s K) := ⟨atail_k⟩
instance : Stp (ADrawT P all tail [] s R) (ATail P all tail s R) := ⟨adrawT_nil⟩
instance : Stp (ADrawT P all tail (oo :: rest) s R) (∀ K : AS → Prop, (∀ s', ADrawT P all tail rest s' R → K s') → AStepS P all oo s K) := ⟨adrawT_k⟩
instance : Stp (ABox P all [] k s bx R) (bx.all (fun b => b.row.isSome) = true ∧ R (bxDone s bx)) := ⟨abox_nil⟩
end
end Go.Proofs.Ytldnlbcibmmbbaa
