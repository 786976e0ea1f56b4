/- A region that draws its order, whose last operations come one behind the other: these may turn memory. No program is named here. -/
import Derived.Test.YtfflpdekojlnmaaDoorLRel
import Derived.Test.YtfflpdekojlnmaaDoorLAbsS
import Derived.OrdersIn

/-! A region that draws its order, whose last operations come one behind the other: these may turn memory. No program is named here. -/
set_option linter.unusedSimpArgs false
set_option linter.unusedVariables false
namespace Go.Proofs.YtfflpdekojlnmaaDoor
open Go.RowKit

section
variable {P : Program} {ops : Array Oper}

def pairT (ops : Array Oper) (m i j : Nat) : Bool :=
 match ops[i]?, ops[j]? with
 | some oi, some oj => (decide (m ≤ j) || depB ops j i || oi.apart ops oj) && !depB ops i j && (match oi.dst with | some d => oj.dst != some d | none => true) && (decide (m ≤ j) || match oj.dst with | some d => !(oi.looksAt ops).contains d | none => true)
 | _, _ => true
def relTB (ops : Array Oper) (m : Nat) : Bool :=
 Region.noSelect ops && decide (m < ops.size) && (List.range ops.size).all (fun j => (List.range j).all (fun i => pairT ops m i j) && (!depB ops j j && farB ops j)) &&
 (List.range ops.size).all (fun t => decide (t < m) || (List.range t).all (fun i => (List.range (t + 1)).any (fun i' => decide (i < i') && depB ops i' i)))

def anyG (st : Nat → (Act → World → Prop) → Act → World → Prop) (ops : Array Oper) (E : Act → World → Prop) : Nat → Array Bool → Act → World → Prop
 | 0, listed, a, w => Region.ready .any ops listed = [] ∧ E a w
 | fuel + 1, listed, a, w => (Region.ready .any ops listed = [] → E a w) ∧ ∀ i ∈ Region.ready .any ops listed, st i (anyG st ops E fuel (listed.setIfInBounds i true)) a w
def seqG (st : Nat → (Act → World → Prop) → Act → World → Prop) (E : Act → World → Prop) : List Nat → Act → World → Prop
 | [] => E
 | i :: r => st i (seqG st E r)
structure StOk (P : Program) (ops : Array Oper) (st : Nat → (Act → World → Prop) → Act → World → Prop) : Prop where
 mono : ∀ {i : Nat} {K K' : Act → World → Prop} {a : Act} {w : World}, (∀ a w, K a w → K' a w) → st i K a w → st i K' a w
 of : ∀ {i : Nat} {o : Oper} {S : Spec} {K : Act → World → Prop} {a : Act} {w : World}, ops[i]? = some o → StepR P ops S o a w → (∀ v w2, S.p v w2 → Below w.heap.size w w2 → K (a.put o.dst v) w2) → st i K a w
theorem wpAny_G {Q : Exit → Act → World → Prop} : ∀ (fuel : Nat) (listed : Array Bool) (a : Act) (w : World), anyG (wpOp P ops Q) ops (Q .normal) fuel listed a w → wpAny P .any ops Q fuel listed a w
 | 0, _, _, _, h => h
 | fuel + 1, _, _, _, h => ⟨h.1, fun i hi => wpOp_mono (fun _ _ => wpAny_G fuel _ _ _) (h.2 i hi)⟩
theorem wpOps_G {Q : Exit → Act → World → Prop} : ∀ l : List Nat, wpOps P ops Q l = seqG (wpOp P ops Q) (Q .normal) l
 | [] => by funext a w; simp [wpOps, seqG]
 | i :: l => by funext a w; rw [wpOps_cons, wpOps_G l]; rfl
theorem stOk_op (Q : Exit → Act → World → Prop) : StOk P ops (wpOp P ops Q) := ⟨fun h k => wpOp_mono h k, fun {i o S K a w} hi h next => by
 unfold wpOp
 simp only [hi]
 rcases h with ⟨h1, h2⟩ | ⟨h1, h2⟩
 ·rw [if_pos h1]
  refine .inl ?_
  unfold Oper.wp
  generalize (execOp a.eval o).run P w = r at h2
  cases r with
  | halt _ _ => exact h2.elim
  | ok n w' =>
   cases n <;> first | exact h2.elim | skip
   case value u => exact next _ _ h2.1 h2.2
   case skip => exact next _ _ h2.1 h2.2
   case enter f args =>
    refine Calls.mono h2 fun e w'' he => ?_
    obtain ⟨v, rfl, hv, hb⟩ := he
    exact next _ _ hv hb
 ·rw [if_neg (by rw [h1]; decide)]
  exact next _ _ h2 (Below.refl _ _)⟩
def tailT (P : Program) (ops : Array Oper) (Q : Exit → Act → World → Prop) (k : Nat) : Act → World → Prop := wpOps P ops Q (List.range' k (ops.size - k))
def relOblT (P : Program) (ops : Array Oper) (L : List Spec) (w0 : World) (T : Nat → Act → World → Prop) : List Oper → Nat → ((Nat → Value) → Act) → Prop
 | [], k, A => ∀ x w, Below w0.heap.size w0 w → (∀ i, i < k → (at' L i).p (x i) w) → T k (A x) w
 | o :: l, k, A => (∀ x w, Below w0.heap.size w0 w → (∀ i, depB ops k i = true → (at' L i).p (x i) w) → StepR P ops (at' L k) o (A x) w) ∧ relOblT P ops L w0 T l (k + 1) (fun x => (A x).put o.dst (x k))

def frS (b : Bool) (n : Nat) (S : Spec) : Spec := ⟨fun v w => S.p v w ∧ (b = true → ∀ k, blkOf v = some k → n ≤ k), fun v w w' hb h => ⟨S.st v w w' hb h.1, h.2⟩⟩
def relOblF (P : Program) (ops : Array Oper) (L : List Spec) (fr : Nat → Bool) (w0 : World) (T : Nat → Act → World → Prop) : List Oper → Nat → ((Nat → Value) → Act) → Prop
 | [], k, A => ∀ x w, Below w0.heap.size w0 w → (∀ i, i < k → (at' L i).p (x i) w) → (∀ i j, i < k → j < k → i ≠ j → fr i = true → fr j = true → ∀ b, blkOf (x i) = some b → blkOf (x j) ≠ some b) → T k (A x) w
 | o :: l, k, A => (∀ x w, Below w0.heap.size w0 w → (∀ i, depB ops k i = true → (at' L i).p (x i) w) → (∀ i j, depB ops k i = true → depB ops k j = true → i ≠ j → fr i = true → fr j = true → ∀ b, blkOf (x i) = some b → blkOf (x j) ≠ some b) → StepR P ops (frS (fr k) w.heap.size (at' L k)) o (A x) w) ∧ relOblF P ops L fr w0 T l (k + 1) (fun x => (A x).put o.dst (x k))
theorem StepR.frS {S : Spec} {o : Oper} {a : Act} {w : World} {n : Nat} (h : StepR P ops S o a w) : StepR P ops (frS false n S) o a w := by
 rcases h with ⟨h1, h2⟩ | ⟨h1, h2⟩
 ·refine .inl ⟨h1, ?_⟩
  revert h2
  generalize (execOp a.eval o).run P w = r
  intro h2
  cases r with
  | halt _ _ => exact h2.elim
  | ok n w' =>
   cases n <;> first | exact h2.elim | skip
   case value u => exact ⟨⟨h2.1, fun h => by cases h⟩, h2.2⟩
   case skip => exact ⟨⟨h2.1, fun h => by cases h⟩, h2.2⟩
   case enter f args =>
    refine Calls.mono h2 fun e w'' he => ?_
    obtain ⟨v, rfl, hv, hb⟩ := he
    exact ⟨v, rfl, ⟨hv, fun h => by cases h⟩, hb⟩
 ·exact .inr ⟨h1, h2, fun h => by cases h⟩
theorem relOblF_of {L : List Spec} {w0 : World} {T : Nat → Act → World → Prop} : ∀ (l : List Oper) (k : Nat) (A : (Nat → Value) → Act), relOblT P ops L w0 T l k A → relOblF P ops L (fun _ => false) w0 T l k A
 | [], k, A, h => fun x w h1 h2 _ => h x w h1 h2
 | o :: l, k, A, h => ⟨fun x w h1 h2 _ => (h.1 x w h1 h2).frS, relOblF_of l (k + 1) _ h.2⟩

theorem relOblF_get {l : List Oper} {L : List Spec} {fr : Nat → Bool} {w0 : World} {T : Nat → Act → World → Prop} {a0 : Act} (hA : Apart2 l) {m0 : Nat} (hm : m0 ≤ l.length) : ∀ (l' : List Oper) (k : Nat) (A : (Nat → Value) → Act), (l.take m0).drop k = l' → k ≤ m0 → (A = fun x => sel (fun i => decide (i < k)) x l 0 a0) →
  relOblF P l.toArray L fr w0 T l' k A → (∀ j o, k ≤ j → j < m0 → l[j]? = some o → ∀ x w, Below w0.heap.size w0 w → (∀ i, depB l.toArray j i = true → (at' L i).p (x i) w) → (∀ i i', depB l.toArray j i = true → depB l.toArray j i' = true → i ≠ i' → fr i = true → fr i' = true → ∀ b, blkOf (x i) = some b → blkOf (x i') ≠ some b) → StepR P l.toArray (frS (fr j) w.heap.size (at' L j)) o (sel (fun i => decide (i < j)) x l 0 a0) w) ∧ ∀ x w, Below w0.heap.size w0 w → (∀ i, i < m0 → (at' L i).p (x i) w) → (∀ i j, i < m0 → j < m0 → i ≠ j → fr i = true → fr j = true → ∀ b, blkOf (x i) = some b → blkOf (x j) ≠ some b) → T m0 (sel (fun i => decide (i < m0)) x l 0 a0) w
 | [], k, A, hl, hk, hAx, h => by
  have h1 : k = m0 := by have := congrArg List.length hl; simp at this; omega
  subst h1; subst hAx
  refine ⟨fun j o h1 h2 => by omega, fun x w h1 h2 h3 => ?_⟩
  have := h x w h1 h2 h3
  simpa using this
 | o :: l', k, A, hl, hk, hAx, h => by
  have h1 : k < m0 := by have := congrArg List.length hl; simp at this; omega
  have h2 : l[k]? = some o := by
   have := congrArg (fun m => m[0]?) hl
   simp only [List.getElem?_drop, Nat.add_zero, List.getElem?_cons_zero] at this
   rwa [List.getElem?_take_of_lt h1] at this
  subst hAx
  have hrec := relOblF_get hA hm l' (k + 1) _ (by have := congrArg List.tail hl; simpa using this) h1 (by
   funext x
   have hi := sel_ins (s := fun i => decide (i < k)) (x := x) (v := x k) l 0 k a0 hA h2 (by simp)
   rw [Nat.zero_add] at hi
   rw [← hi]
   refine sel_congr l 0 a0 (fun i _ _ => ?_)
   by_cases hik : i = k
   ·subst hik; simp [updB, updV]
   ·have : (i < k + 1) = (i < k) := by apply propext; omega
    simp [updB, updV, hik, this]) h.2
  refine ⟨fun j o' hj hjm ho => ?_, hrec.2⟩
  by_cases hjk : j = k
  ·subst hjk
   rw [h2] at ho; cases ho
   exact h.1
  ·exact hrec.1 j o' (by omega) hjm ho

theorem unl_from {s : Nat → Bool} : ∀ n m, m ≤ n → (∀ i, m ≤ i → i < n → s i = false) → n - m ≤ unl s n
 | 0, m, _, _ => by omega
 | n + 1, m, h, hs => by
  rcases Nat.lt_or_ge n m with q | q
  ·omega
  ·have := unl_from (s := s) n m q (fun i h1 h2 => hs i h1 (by omega))
   rw [unl, hs n q (by omega)]; simp; omega

theorem tail_run {l : List Oper} {m0 : Nat} {st : Nat → (Act → World → Prop) → Act → World → Prop} {E : Act → World → Prop} (hst : StOk P l.toArray st) (hnext : ∀ t, m0 ≤ t → t < l.length → ∀ i, i < t → ∃ i', i' ≤ t ∧ i < i' ∧ depB l.toArray i' i = true)
  (hback : ∀ i j oi oj, i < j → l[i]? = some oi → l[j]? = some oj → depB l.toArray i j = false) (hself : ∀ j, j < l.length → depB l.toArray j j = false) (hfar : ∀ (j : Nat) (o : Oper), l[j]? = some o → ∀ e ∈ o.after, e.on < l.length) :
  ∀ (fuel k : Nat) (listed : Array Bool) (a : Act) (w : World), listed.size = l.length → m0 ≤ k → k ≤ l.length → (∀ i, listed.getD i false = decide (i < k)) → l.length - k ≤ fuel →
   seqG st E (List.range' k (l.length - k)) a w → anyG st l.toArray E fuel listed a w := by
 intro fuel
 induction fuel with
 | zero =>
  intro k listed a w hsz hm hk hl hf h
  have e : k = l.length := by omega
  subst e
  rw [Nat.sub_self] at h
  refine ⟨?_, by simpa [seqG] using h⟩
  refine List.eq_nil_iff_forall_not_mem.2 (fun i hi => ?_)
  obtain ⟨g1, o, g2, -⟩ := mem_ready.1 hi
  have hil : i < l.length := (List.getElem?_eq_some_iff.1 (show l[i]? = some o by simpa using g2)).1
  have his : i < listed.size := by omega
  have g3 := hl i
  rw [show listed.getD i false = false by
   simp only [Array.getD_eq_getD_getElem?, Array.getElem?_eq_getElem his, Option.getD_some] at g1 ⊢; exact g1] at g3
  simp [hil] at g3
 | succ fuel ih =>
  intro k listed a w hsz hm hk hl hf h
  have hread : ∀ j, j ∈ Region.ready .any l.toArray listed → j = k ∧ k < l.length := by
   intro j hj
   obtain ⟨g1, o, g2, g3⟩ := mem_ready.1 hj
   have hoj : l[j]? = some o := by simpa using g2
   have hjl : j < l.length := (List.getElem?_eq_some_iff.1 hoj).1
   have his : j < listed.size := by omega
   have g4 := hl j
   rw [show listed.getD j false = false by
    simp only [Array.getD_eq_getD_getElem?, Array.getElem?_eq_getElem his, Option.getD_some] at g1 ⊢; exact g1] at g4
   have hkj : k ≤ j := by
    rcases Nat.lt_or_ge j k with q | q
    ·simp [q] at g4
    ·exact q
   rcases Nat.eq_or_lt_of_le hkj with e | hlt
   ·exact ⟨e.symm, by omega⟩
   ·exfalso
    have hd : ∀ i, depB l.toArray j i = true → listed.getD i false = true := by
     intro i hi
     simp only [depB, g2, Bool.and_eq_true, beq_iff_eq, Array.any_eq_true'] at hi
     obtain ⟨e, he, hb, rfl⟩ := hi
     exact g3 e he hb
    have hsome : ∀ n i, i + n + 1 = j → k ≤ i → False := by
     intro n
     induction n using Nat.strongRecOn with
     | _ n ihn =>
      intro i hi hki
      obtain ⟨i', q1, q2, q3⟩ := hnext j (by omega) hjl i (by omega)
      by_cases hi' : i' = j
      ·subst hi'
       have := hd i q3
       rw [hl i] at this
       simp at this; omega
      ·exact ihn (j - 1 - i') (by omega) i' (by omega) (by omega)
    exact hsome (j - k - 1) k (by omega) (Nat.le_refl _)
  refine ⟨fun h0 => ?_, fun j hj => ?_⟩
  ·rcases Nat.lt_or_ge k l.length with q | q
   ·exfalso
    have hmem : k ∈ Region.ready .any l.toArray listed := by
     refine mem_ready.2 ⟨?_, l[k], by simp [q], fun e he hb => ?_⟩
     ·have hms : k < listed.size := by omega
      have := hl k
      simp [hms] at this ⊢; exact this
     ·have hd : depB l.toArray k e.on = true := by
       have : l.toArray[k]? = some l[k] := by simp [q]
       simp only [depB, this]
       simp only [Array.any_eq_true', Bool.and_eq_true, beq_iff_eq]
       exact ⟨e, he, hb, rfl⟩
      rcases Nat.lt_trichotomy e.on k with h' | h' | h'
      ·rw [hl]; simpa using h'
      ·rw [h', hself k q] at hd; cases hd
      ·by_cases hl' : e.on < l.length
       ·have := hback k e.on l[k] l[e.on] h' (by simp [q]) (by simp [hl'])
        rw [hd] at this; cases this
       ·exact absurd (hfar k l[k] (by simp [q]) e he) hl'
    rw [h0] at hmem; cases hmem
   ·have e : k = l.length := by omega
    subst e
    rw [Nat.sub_self] at h
    simpa [seqG] using h
  ·obtain ⟨rfl, hlt⟩ := hread j hj
   have e : l.length - j = (l.length - (j + 1)) + 1 := by omega
   rw [e, List.range'_succ] at h
   simp only [seqG] at h
   refine hst.mono (fun a' w' h' => ih (j + 1) _ a' w' (by simpa using hsz) (by omega) hlt (fun i => ?_) (by omega) h') h
   by_cases hij : i = j
   ·subst hij
    have : i < listed.size := by omega
    simp [this]
   ·rw [show (listed.setIfInBounds j true).getD i false = listed.getD i false from getD_set_ne false (Ne.symm hij), hl i]
    have : (i < j + 1) = (i < j) := by apply propext; omega
    simp [this]

theorem any_region_tailG {st : Nat → (Act → World → Prop) → Act → World → Prop} {E : Act → World → Prop} {a : Act} {w : World} {l : List Oper} (L : List Spec) (fr : Nat → Bool) (hfr : ∀ i v w, fr i = true → (at' L i).p v w → ∀ b, blkOf v = some b → b < w.heap.size) (m0 : Nat) (hst : StOk P l.toArray st) (hB : relTB l.toArray m0 = true)
  (h : relOblF P l.toArray L fr w.drew (fun k => seqG st E (List.range' k (l.length - k))) (l.take m0) 0 (fun _ => a)) : anyG st l.toArray E l.toArray.size (Array.replicate l.toArray.size false) a w.drew := by
 simp only [relTB, Bool.and_eq_true, List.all_eq_true, List.mem_range, List.size_toArray, decide_eq_true_eq] at hB
 obtain ⟨⟨⟨hns, hm0⟩, hall⟩, htail⟩ := hB
 have hsel := Region.noSelect_spec hns
 have hpair : ∀ i j oi oj, i < j → l[i]? = some oi → l[j]? = some oj → (j < m0 → depB l.toArray j i = true ∨ oi.apart l.toArray oj = true) ∧ depB l.toArray i j = false ∧ (∀ e, oi.dst = some e → oj.dst ≠ some e) ∧ (j < m0 → ∀ e, oj.dst = some e → e ∉ oi.looksAt l.toArray) := by
  intro i j oi oj hij hi hj
  have hjn := (List.getElem?_eq_some_iff.1 hj).1
  have := (hall j hjn).1 i hij
  simp only [pairT, List.getElem?_toArray, hi, hj, Bool.and_eq_true, Bool.or_eq_true, Bool.not_eq_true', decide_eq_true_eq] at this
  refine ⟨fun hlt => ?_, this.1.1.2, fun e he => ?_, fun hlt e he => ?_⟩
  ·rcases this.1.1.1 with (h | h) | h
   ·omega
   ·exact .inl h
   ·exact .inr h
  ·have h3 := this.1.2
   rw [he] at h3
   simpa using h3
  ·have h3 := this.2
   rw [he] at h3
   rcases h3 with h3 | h3
   ·omega
   ·simpa using h3
 have hself : ∀ j, j < l.length → depB l.toArray j j = false := fun j hj => by simpa using (hall j hj).2.1
 have hfar : ∀ (j : Nat) (o : Oper), l[j]? = some o → ∀ e ∈ o.after, e.on < l.length := fun j o hj e he => by
  have := (hall j (List.getElem?_eq_some_iff.1 hj).1).2.2
  simp only [farB, List.getElem?_toArray, hj, Array.all_eq_true_iff_forall_mem] at this
  simpa using this e he
 have hnext : ∀ t, m0 ≤ t → t < l.length → ∀ i, i < t → ∃ i', i' ≤ t ∧ i < i' ∧ depB l.toArray i' i = true := fun t ht htl i hit => by
  have := htail t htl
  simp only [Bool.or_eq_true, decide_eq_true_eq, List.all_eq_true, List.any_eq_true, List.mem_range, Bool.and_eq_true] at this
  rcases this with h | h
  ·omega
  ·obtain ⟨i', h1, h2, h3⟩ := h i hit
   exact ⟨i', by omega, h2, h3⟩
 have hA : Apart2 l := fun i j oi oj hi hj hij e he => by
  rcases Nat.lt_or_gt_of_ne hij with h | h
  ·exact (hpair i j oi oj h hi hj).2.2.1 e he
  ·intro h2
   exact (hpair j i oj oi h hj hi).2.2.1 e h2 he
 have hO := relOblF_get (P := P) (L := L) (fr := fr) (w0 := w.drew) (T := fun k => seqG st E (List.range' k (l.length - k))) (a0 := a) hA (m0 := m0) (by omega) (l.take m0) 0 (fun _ => a) (by simp) (Nat.zero_le _) (by
  funext x
  exact (show a = sel (fun _ => false) x l 0 a from by
   have : ∀ (l : List Oper) k, a = sel (fun _ => false) x l k a := by
    intro l
    induction l with
    | nil => intro k; rfl
    | cons o l ih => intro k; rw [sel]; exact ih (k + 1)
   exact this l 0).trans (sel_congr l 0 a (fun i _ _ => by simp))) h
 -- what an operation looks at lies among those it comes behind
 have hloose : ∀ i j oi oj, i < m0 → j < m0 → l[i]? = some oi → l[j]? = some oj → i ≠ j → depB l.toArray j i = false → ∀ d, oi.dst = some d → d ∉ oj.looksAt l.toArray := by
  intro i j oi oj him hjm hi hj hij hd
  rcases Nat.lt_or_gt_of_ne hij with h | h
  ·rcases (hpair i j oi oj h hi hj).1 hjm with h1 | h1
   ·rw [hd] at h1; cases h1
   ·exact (Oper.apart_spec h1).1
  ·exact (hpair j i oj oi h hj hi).2.2.2 him
 -- an operation sees no more than what it comes behind
 have hsee : ∀ (s s' : Nat → Bool) x j oj, (∀ i, m0 ≤ i → s i = false ∧ s' i = false) → j < m0 → l[j]? = some oj → s j = false → s' j = false → (∀ i, i < l.length → depB l.toArray j i = true → s i = true ∧ s' i = true) →
   execOp (sel s x l 0 a).eval oj = execOp (sel s' x l 0 a).eval oj ∧ Region.wanted oj (yielded l.toArray (sel s x l 0 a).tmps) = Region.wanted oj (yielded l.toArray (sel s' x l 0 a).tmps) := by
  intro s s' x j oj hst hjm hj h1 h2 hd
  have one := fun (s : Nat → Bool) (hs0 : ∀ i, m0 ≤ i → s i = false) (hs : s j = false) => sel_strip (ops := l.toArray) (s := s) (keep := depB l.toArray j) (x := x) (a := a) hA (fun cs b => hsel j oj cs b (by simpa using hj))
   (fun i oi hi hsi hk => hloose i j oi oj (by rcases Nat.lt_or_ge i m0 with q | q; exact q; rw [hs0 i q] at hsi; cases hsi) hjm hi hj (by intro e; subst e; rw [hsi] at hs; cases hs) hk)
  obtain ⟨a1, a2⟩ := one s (fun i hi => (hst i hi).1) h1
  obtain ⟨b1, b2⟩ := one s' (fun i hi => (hst i hi).2) h2
  have e : sel (fun i => s i && depB l.toArray j i) x l 0 a = sel (fun i => s' i && depB l.toArray j i) x l 0 a := sel_congr l 0 a (fun i _ hi => by
   refine ⟨?_, fun _ => rfl⟩
   cases hk : depB l.toArray j i
   ·simp
   ·obtain ⟨c1, c2⟩ := hd i (by omega) hk
    simp [c1, c2])
  exact ⟨by rw [a1, b1, e], by rw [a2, b2, e]⟩
 have main : ∀ fuel (listed : Array Bool) x w1, listed.size = l.length → Below w.drew.heap.size w.drew w1 → (∀ i, listed.getD i false = true → (at' L i).p (x i) w1) →
   (∀ j i, listed.getD j false = true → depB l.toArray j i = true → listed.getD i false = true) → (∀ i, m0 ≤ i → listed.getD i false = false) → (∀ i j, listed.getD i false = true → listed.getD j false = true → i ≠ j → fr i = true → fr j = true → ∀ b, blkOf (x i) = some b → blkOf (x j) ≠ some b) → unl (fun i => listed.getD i false) l.length ≤ fuel →
   anyG st l.toArray E fuel listed (sel (fun i => listed.getD i false) x l 0 a) w1 := by
  intro fuel
  induction fuel with
  | zero =>
   intro listed x w1 _ _ _ _ hlast _ hu
   have := unl_pos (s := fun i => listed.getD i false) l.length (i := m0) hm0 (hlast m0 (Nat.le_refl _))
   omega
  | succ fuel ih =>
   intro listed x w1 hsz hE hF hcl hlast hpr hu
   have hmemR : ∀ j, j ∈ Region.ready .any l.toArray listed → ∃ oj, l[j]? = some oj ∧ listed.getD j false = false ∧ ∀ i, depB l.toArray j i = true → listed.getD i false = true := by
    intro j hj
    obtain ⟨h1, o, ho, h3⟩ := mem_ready.1 hj
    refine ⟨o, by simpa using ho, ?_, fun i hi => ?_⟩
    ·rcases Nat.lt_or_ge j listed.size with h' | h'
     ·simp [h'] at h1 ⊢; exact h1
     ·simp [Array.getElem?_eq_none h']
    ·simp only [depB, ho, Bool.and_eq_true, beq_iff_eq, Array.any_eq_true'] at hi
     obtain ⟨e, he, hb, rfl⟩ := hi
     exact h3 e he hb
   refine ⟨fun h0 => ?_, fun j hj => ?_⟩
   ·-- the least one that is not listed is ready
    exfalso
    have hex : ∃ m, m < l.length ∧ listed.getD m false = false ∧ ∀ i, i < m → listed.getD i false = true := by
     have : ∀ k, k ≤ l.length → (∀ i, i < k → listed.getD i false = true) ∨ ∃ m, m < l.length ∧ listed.getD m false = false ∧ ∀ i, i < m → listed.getD i false = true := by
      intro k
      induction k with
      | zero => exact fun _ => .inl (fun i hi => by omega)
      | succ k ihk =>
       intro hk
       rcases ihk (by omega) with h | h
       ·cases hc : listed.getD k false
        ·exact .inr ⟨k, by omega, hc, h⟩
        ·exact .inl (fun i hi => by
          by_cases e : i = k
          ·subst e; exact hc
          ·exact h i (by omega))
       ·exact .inr h
     rcases this l.length (Nat.le_refl _) with h | h
     ·have := h m0 hm0
      rw [hlast m0 (Nat.le_refl _)] at this; cases this
     ·exact h
    obtain ⟨m, hm1, hm2, hm3⟩ := hex
    have hmem : m ∈ Region.ready .any l.toArray listed := by
     refine mem_ready.2 ⟨?_, l[m], by simp [hm1], fun e he hb => ?_⟩
     ·have hms : m < listed.size := by omega
      simp [hms] at hm2 ⊢; exact hm2
     ·have hd : depB l.toArray m e.on = true := by
       have : l.toArray[m]? = some l[m] := by simp [hm1]
       simp only [depB, this]
       simp only [Array.any_eq_true', Bool.and_eq_true, beq_iff_eq]
       exact ⟨e, he, hb, rfl⟩
      rcases Nat.lt_trichotomy e.on m with h | h | h
      ·exact hm3 _ h
      ·rw [h, hself m hm1] at hd; cases hd
      ·by_cases hl : e.on < l.length
       ·have := (hpair m e.on l[m] l[e.on] h (by simp [hm1]) (by simp [hl])).2.1
        rw [hd] at this; cases this
       ·exact absurd (hfar m l[m] (by simp [hm1]) e he) hl
    rw [h0] at hmem; cases hmem
   ·obtain ⟨oj, hoj, hun, hdeps⟩ := hmemR j hj
    have hjl := (List.getElem?_eq_some_iff.1 hoj).1
    have hsj : (listed.setIfInBounds j true).size = l.length := by simpa using hsz
    have hgd : ∀ i, (listed.setIfInBounds j true).getD i false = updB (fun i => listed.getD i false) j i := by
     intro i
     by_cases hij : i = j
     ·subst hij
      have : i < listed.size := by omega
      simp [updB, this]
     ·simp only [updB, if_neg hij]
      exact getD_set_ne false (Ne.symm hij)
    have hup : ∀ t, m0 ≤ t → t < l.length → (∀ i, depB l.toArray t i = true → listed.getD i false = true) → ∀ k i, i + k + 1 = t → listed.getD i false = true := by
     intro t h1 h2 hdt k
     induction k using Nat.strongRecOn with
     | _ k ihk =>
      intro i hi
      obtain ⟨i', q1, q2, q3⟩ := hnext t h1 h2 i (by omega)
      by_cases hi' : i' = t
      ·subst hi'; exact hdt i q3
      ·exact hcl i' i (ihk (t - 1 - i') (by omega) i' (by omega)) q3
    by_cases hjn : m0 ≤ j
    ·-- the tail begins
     have hj0 : j = m0 := by
      rcases Nat.eq_or_lt_of_le hjn with e | hlt
      ·exact e.symm
      ·have := hup j hjn hjl hdeps (j - m0 - 1) m0 (by omega)
       rw [hlast m0 (Nat.le_refl _)] at this; cases this
     subst hj0
     have hall' : ∀ i, i < j → listed.getD i false = true := fun i hi => hup j hjn hjl hdeps (j - i - 1) i (by omega)
     have h2 := hO.2 x w1 hE (fun i hi => hF i (hall' i hi)) (fun i k hi hk => hpr i k (hall' i hi) (hall' k hk))
     have e : sel (fun i => decide (i < j)) x l 0 a = sel (fun i => listed.getD i false) x l 0 a := sel_congr l 0 a (fun i _ hi => by
      refine ⟨?_, fun _ => rfl⟩
      by_cases hij : i < j
      ·simp only [hij, decide_true]; exact (hall' i hij).symm
      ·simp only [hij, decide_false]; exact (hlast i (by omega)).symm)
     rw [e] at h2
     have hrun := tail_run (P := P) (st := st) (E := E) (l := l) (m0 := j) hst (fun t h1 h2 => hnext t h1 h2) (fun i k oi ok hik h1 h2 => (hpair i k oi ok hik h1 h2).2.1) hself hfar (fuel + 1) j listed _ w1 hsz (Nat.le_refl _) (Nat.le_of_lt hjl) (fun i => by
      by_cases hij : i < j
      ·simp only [hij, decide_true]; exact hall' i hij
      ·simp only [hij, decide_false]; exact hlast i (by omega)) (by
      have := unl_from (s := fun i => listed.getD i false) l.length j (Nat.le_of_lt hjl) (fun i h1 _ => hlast i h1)
      omega) h2
     exact hrun.2 j hj
    ·have hjm : j < m0 := by omega
     have hst2 := hO.1 j oj (Nat.zero_le _) hjm hoj x w1 hE (fun i hi => hF i (hdeps i hi)) (fun i k hi hk => hpr i k (hdeps i hi) (hdeps k hk))
     obtain ⟨c1, c2⟩ := hsee (fun i => listed.getD i false) (fun i => decide (i < j)) x j oj (fun i hi => ⟨hlast i hi, by simp; omega⟩) hjm hoj hun (by simp) (fun i hi hd => ⟨hdeps i hd, by
      rcases Nat.lt_trichotomy i j with h | h | h
      ·simpa using h
      ·rw [h, hself j hjl] at hd; cases hd
      ·have := (hpair j i oj l[i] h hoj (by simp [hi])).2.1
       rw [hd] at this; cases this⟩)
     have next : ∀ v w2, (frS (fr j) w1.heap.size (at' L j)).p v w2 → Below w1.heap.size w1 w2 → anyG st l.toArray E fuel (listed.setIfInBounds j true) ((sel (fun i => listed.getD i false) x l 0 a).put oj.dst v) w2 := by
      intro v w2 hvf hb
      obtain ⟨hv, hvn⟩ := hvf
      have hi := sel_ins (s := fun i => listed.getD i false) (x := x) (v := v) l 0 j a hA hoj (by simpa using hun)
      rw [Nat.zero_add] at hi
      rw [← hi, ← show (fun i => (listed.setIfInBounds j true).getD i false) = updB (fun i => listed.getD i false) j from funext hgd]
      refine ih _ _ w2 hsj (belowT hE hb) (fun i hi' => ?_) (fun j' i hj' hd => ?_) ?_ ?_ ?_
      ·rw [hgd] at hi'
       by_cases hij : i = j
       ·subst hij; simpa [updV] using hv
       ·simp only [updB, if_neg hij] at hi'
        simp only [updV, if_neg hij]
        exact (at' L i).st _ _ _ hb (hF i hi')
      ·rw [hgd] at hj' ⊢
       by_cases hij : i = j
       ·simp [updB, hij]
       ·simp only [updB, if_neg hij]
        by_cases hj2 : j' = j
        ·subst hj2; exact hdeps i hd
        ·simp only [updB, if_neg hj2] at hj'
         exact hcl j' i hj' hd
      ·intro i hi
       rw [hgd]
       have : i ≠ j := by omega
       simp only [updB, if_neg this]; exact hlast i hi
      ·intro i k hi hk hik fi fk b hbi hbk
       rw [hgd] at hi hk
       have old : ∀ i, updB (fun i => listed.getD i false) j i = true → i ≠ j → listed.getD i false = true := fun i h1 h2 => by simpa only [updB, if_neg h2] using h1
       by_cases hij : i = j
       ·subst hij
        have hkj : k ≠ i := fun e => hik e.symm
        simp only [updV, if_true, if_neg hkj] at hbi hbk
        have := hfr k _ w1 fk (hF k (old k hk hkj)) b hbk
        have := hvn fi b hbi
        omega
       ·by_cases hkj : k = j
        ·subst hkj
         simp only [updV, if_true, if_neg hij] at hbi hbk
         have := hfr i _ w1 fi (hF i (old i hi hij)) b hbi
         have := hvn fk b hbk
         omega
        ·simp only [updV, if_neg hij, if_neg hkj] at hbi hbk
         exact hpr i k (old i hi hij) (old k hk hkj) hik fi fk b hbi hbk
      ·rw [unl_congr (s' := updB (fun i => listed.getD i false) j) l.length (fun i _ => hgd i)]
       have := unl_upd (s := fun i => listed.getD i false) (i := j) l.length hjl hun
       omega
     unfold StepR at hst2
     rw [← c1, ← c2] at hst2
     exact hst.of (by simpa using hoj) hst2 next
 have hrep : ∀ i, (Array.replicate l.toArray.size false).getD i false = false := fun i => by
  simp only [Array.getD_eq_getD_getElem?, Array.getElem?_replicate]; split <;> rfl
 have h0 := main l.toArray.size (Array.replicate l.toArray.size false) (fun _ => undef) w.drew (by simp) (Below.refl _ _)
  (fun i hi => by rw [hrep] at hi; cases hi) (fun j i hj => by rw [hrep] at hj; cases hj) (fun i _ => hrep i) (fun i j hi => by rw [hrep] at hi; cases hi) (unl_le _)
 have e : sel (fun i => (Array.replicate l.toArray.size false).getD i false) (fun _ => undef) l 0 a = a := by
  have : ∀ (l' : List Oper) k, sel (fun i => (Array.replicate l.toArray.size false).getD i false) (fun _ => undef) l' k a = a := by
   intro l'
   induction l' with
   | nil => intro k; rfl
   | cons o l' ih => intro k; rw [sel, hrep]; exact ih (k + 1)
  exact this l 0
 rw [e] at h0
 exact h0
theorem tailT_G (Q : Exit → Act → World → Prop) (l : List Oper) : tailT P l.toArray Q = fun k => seqG (wpOp P l.toArray Q) (Q .normal) (List.range' k (l.length - k)) := by
 funext k; rw [tailT, wpOps_G]; simp only [List.size_toArray]
theorem any_region_tailF {Q : Exit → Act → World → Prop} {a : Act} {w : World} {l : List Oper} (L : List Spec) (fr : Nat → Bool) (hfr : ∀ i v w, fr i = true → (at' L i).p v w → ∀ b, blkOf v = some b → b < w.heap.size) (m0 : Nat) (hB : relTB l.toArray m0 = true)
  (h : relOblF P l.toArray L fr w.drew (tailT P l.toArray Q) (l.take m0) 0 (fun _ => a)) : wpAny P .any l.toArray Q l.toArray.size (Array.replicate l.toArray.size false) a w.drew :=
 wpAny_G _ _ _ _ (any_region_tailG L fr hfr m0 (stOk_op Q) hB (by rw [← tailT_G]; exact h))
theorem any_region_tail {Q : Exit → Act → World → Prop} {a : Act} {w : World} {l : List Oper} (L : List Spec) (m0 : Nat) (hB : relTB l.toArray m0 = true)
  (h : relOblT P l.toArray L w.drew (tailT P l.toArray Q) (l.take m0) 0 (fun _ => a)) : wpAny P .any l.toArray Q l.toArray.size (Array.replicate l.toArray.size false) a w.drew :=
 any_region_tailF L (fun _ => false) (fun i v w h => by cases h) m0 hB (relOblF_of _ _ _ h)
end
end Go.Proofs.YtfflpdekojlnmaaDoor

/-! The abstract walk: regions that draw their order, whose last operations come one behind the other. -/
set_option linter.unusedSimpArgs false
set_option linter.unusedVariables false
namespace Go.Proofs.YtfflpdekojlnmaaDoor
open Go.RowKit

section
variable {D : Nat → Prop} {nu : Nat → Nat → Value} {o : List (Option AObj)} {w : World} {P : Program}

def AStepD (P : Program) (all : List Oper) (oo : Oper) (s : AS) (K : AS → Prop) : Prop := match oo.guard with
 | none => ADo P oo.op s (fun r o' => K (s.put oo.dst r o'))
 | some (j, want) => AGd (gval all s j) want (ADo P oo.op s (fun r o' => K (s.put oo.dst r o'))) (K (s.put oo.dst (.v Go.undef) s.o))
def ATail (P : Program) (all : List Oper) : List Oper → AS → (AS → Prop) → Prop
 | [], s, Q => Q s
 | oo :: rest, s, Q => AStepD P all oo s (fun s' => ATail P all rest s' Q)
def ADrawX (P : Program) (all : List Oper) (B : AS → Prop) : List Oper → AS → Prop
 | [], s => B s
 | oo :: rest, s => match oo.guard with
  | none => ADoS P oo.op s (fun r => ADrawX P all B rest (s.put oo.dst r s.o))
  | some (j, want) => AGd (gval all s j) want (ADoS P oo.op s (fun r => ADrawX P all B rest (s.put oo.dst r s.o))) (ADrawX P all B rest (s.put oo.dst (.v Go.undef) s.o))
abbrev ADrawT (P : Program) (all tail : List Oper) (l : List Oper) (s : AS) (Q : AS → Prop) : Prop := ADrawX P all (fun s => ATail P all tail s Q) l s

theorem atail_good {f : Fr} {l : List Oper} {R : Exit → Act → World → Prop} : ∀ (tail : List Oper) (k : Nat) (s : AS) (a : Act) (w : World) (nu : Nat → Nat → Value), l.drop k = tail → k ≤ l.length → RS f D nu s a w → ∀ {Q : AS → Prop}, ATail P l tail s Q →
  (∀ s' a' w' nu', Mono nu s.o w nu' s'.o w' → s'.y = s.y → RS f D nu' s' a' w' → Q s' → R .normal a' w') → wpOps P l.toArray R (List.range' k (l.length - k)) a w
 | [], k, s, a, w, nu, hl, hk, hs, Q, h, hR => by
  have e : k = l.length := by have := congrArg List.length hl; simp at this; omega
  subst e
  rw [Nat.sub_self]
  simpa [wpOps] using hR s a w nu (.refl _ _ _) rfl hs h
 | oo :: rest, k, s, a, w, nu, hl, hk, hs, Q, h, hR => by
  have hlt : k < l.length := by have := congrArg List.length hl; simp at this; omega
  have hok : l[k]? = some oo := by have := congrArg (fun m => m[0]?) hl; simpa using this
  have hl' : l.drop (k + 1) = rest := by have := congrArg List.tail hl; simpa using this
  have e : l.length - k = (l.length - (k + 1)) + 1 := by omega
  rw [e, List.range'_succ, wpOps_cons]
  unfold wpOp
  simp only [List.getElem?_toArray, hok]
  have hdo : ADo P oo.op s (fun r o' => ATail P l rest (s.put oo.dst r o') Q) → Region.wanted oo (yielded l.toArray a.tmps) = true → (if Region.wanted oo (yielded l.toArray a.tmps) = true then oo.wp P a w (wpOps P l.toArray R (List.range' (k + 1) (l.length - (k + 1)))) R ∨ oo.asks P a w ∧ LetsOut R else wpOps P l.toArray R (List.range' (k + 1) (l.length - (k + 1))) (a.put oo.dst Go.undef) w) := by
   intro hd hw
   rw [if_pos hw]
   exact .inl (ado_good (P := P) hs.ro (fun y _ => hs.ev y) hd (fun v w' nu' r o' m1 m2 m3 m4 => atail_good rest (k + 1) (s.put oo.dst r o') _ w' nu' hl' hlt (hs.put m1 m2 m3 oo.dst) m4 (fun s' a' w2 nu2 q1 q2 q3 q4 => hR s' a' w2 nu2 (by simpa only [AS.put] using m1.trans q1) (q2.trans rfl) q3 q4)))
  have hskip : ATail P l rest (s.put oo.dst (.v Go.undef) s.o) Q → Region.wanted oo (yielded l.toArray a.tmps) = false → (if Region.wanted oo (yielded l.toArray a.tmps) = true then oo.wp P a w (wpOps P l.toArray R (List.range' (k + 1) (l.length - (k + 1)))) R ∨ oo.asks P a w ∧ LetsOut R else wpOps P l.toArray R (List.range' (k + 1) (l.length - (k + 1))) (a.put oo.dst Go.undef) w) := by
   intro hd hw
   rw [if_neg (by rw [hw]; decide)]
   exact atail_good rest (k + 1) (s.put oo.dst (.v Go.undef) s.o) _ w nu hl' hlt (hs.put (.refl _ _ _) hs.ro (.v _) oo.dst) hd (fun s' a' w2 nu2 q1 q2 q3 q4 => hR s' a' w2 nu2 (by simpa only [AS.put] using q1) (q2.trans rfl) q3 q4)
  simp only [ATail, AStepD] at h
  split at h
  ·rename_i hg
   exact hdo h (by simp [Region.wanted, hg])
  ·rename_i j want hg
   have hyv : ∀ g, gval l s j = some g → yielded l.toArray a.tmps j = g := fun g hgv => gval_good (D := D) (nu := nu) (w := w) (fun d c v hd h1 h2 => hs.tm.at' d c v h1 h2) hs.tm.len hgv
   unfold AGd at h
   split at h
   ·rename_i b e
    cases hb : b == want
    ·rw [hb] at h
     exact hskip h (by simp only [Region.wanted, hg, hyv _ e]; simpa using hb)
    ·rw [hb] at h
     exact hdo h (by simp only [Region.wanted, hg, hyv _ e]; simpa using hb)
   ·rename_i e
    exact hskip h (by simp only [Region.wanted, hg, hyv _ e]; rfl)
   ·exact h.elim

theorem relTB_pair {l : List Oper} {m0 : Nat} (hB : relTB l.toArray m0 = true) {i j : Nat} {oi oj : Oper} (hij : i < j) (hi : l[i]? = some oi) (hj : l[j]? = some oj) (hjm : j < m0) : depB l.toArray j i = true ∨ ∀ d, oi.dst = some d → d ∉ oj.looksAt l.toArray := by
 simp only [relTB, Bool.and_eq_true, List.all_eq_true, List.mem_range, List.size_toArray] at hB
 have hjn := (List.getElem?_eq_some_iff.1 hj).1
 have := (hB.1.2 j hjn).1 i hij
 simp only [pairT, List.getElem?_toArray, hi, hj, Bool.and_eq_true, Bool.or_eq_true, Bool.not_eq_true', decide_eq_true_eq] at this
 rcases this.1.1.1 with (h | h) | h
 ·omega
 ·exact .inl h
 ·exact .inr (Oper.apart_spec h).1

theorem adrawX_good {f : Fr} {l : List Oper} {m0 : Nat} (hm0 : m0 ≤ l.length) (hB : relTB l.toArray m0 = true) {s : AS} {a : Act} {w0 : World} {B : AS → Prop} {T : Nat → Act → World → Prop} (hs : RS f D nu s a w0)
  (hT : ∀ sk a' wr, Below w0.heap.size w0 wr → sk.o = s.o → sk.y = s.y → RS f D nu sk a' wr → B sk → T m0 a' wr) :
  ∀ (rest : List Oper) (k : Nat) (sk : AS) (rs : List AV) (A : (Nat → Value) → Act), (l.take m0).drop k = rest → k ≤ m0 → DInv l s a k sk rs A → ADrawX P l B rest sk → ∃ rs', relOblT P l.toArray ((rs ++ rs').map (specOf D nu s.o)) w0 T rest k A
 | [], k, sk, rs, A, hl, hk, hI, h => by
  have hkm : k = m0 := by have := congrArg List.length hl; simp at this; omega
  subst hkm
  refine ⟨[], fun x wr hE hD => ?_⟩
  have hro : RO D nu s.o wr := hs.ro.below hE
  have hsk : RS f D nu sk (A x) wr := by
   refine ⟨by rw [hI.o]; exact hro, ⟨hI.size x, fun t c v h1 h2 => ?_⟩, by rw [hI.dfr x]; exact hs.dfr.mono hs.ro (mono_below hE)⟩
   rw [hI.o]
   rcases hI.val x t c v h1 h2 with ⟨h3, h4⟩ | ⟨i, q1, q2, q3, q4⟩
   ·exact (hs.tm.at' t c v h3 h4).mono (mono_below hE) (fun _ _ h => h)
   ·have := hD i q1
    rw [at_spec q3] at this
    rw [q4]; exact this.2
  exact hT sk (A x) wr hE hI.o hI.y hsk h
 | oo :: rest, k, sk, rs, A, hl, hk, hI, h => by
  have hkm : k < m0 := by have := congrArg List.length hl; simp at this; omega
  have hok : l[k]? = some oo := by
   have := congrArg (fun m => m[0]?) hl
   simp only [List.getElem?_drop, Nat.add_zero, List.getElem?_cons_zero] at this
   rwa [List.getElem?_take_of_lt hkm] at this
  have hl' : (l.take m0).drop (k + 1) = rest := by have := congrArg List.tail hl; simpa using this
  -- what the operation looks at reads as told
  have hlook : ∀ x wr, Below w0.heap.size w0 wr → (∀ rs' i, depB l.toArray k i = true → i < k → (at' ((rs ++ rs').map (specOf D nu s.o)) i).p (x i) wr) → ∀ (t : Nat) c v, t ∈ oo.looksAt l.toArray → sk.t[t]? = some c → (A x).tmps[t]? = some v → RA D nu s.o wr c v := by
   intro x wr hE hD t c v ht h1 h2
   rcases hI.val x t c v h1 h2 with ⟨h3, h4⟩ | ⟨i, q1, ⟨oi, q2, q5⟩, q3, q4⟩
   ·exact (hs.tm.at' t c v h3 h4).mono (mono_below hE) (fun _ _ h => h)
   ·rcases relTB_pair hB q1 q2 hok hkm with h5 | h5
    ·have := hD [] i h5 q1
     rw [at_spec q3] at this
     rw [q4]; exact this.2
    ·exact absurd ht (h5 t q5)
  have hevs : ∀ x wr, Below w0.heap.size w0 wr → (∀ rs' i, depB l.toArray k i = true → i < k → (at' ((rs ++ rs').map (specOf D nu s.o)) i).p (x i) wr) → Evs D nu s.o wr sk.ev (A x).eval oo.op := by
   intro x wr hE hD y hy
   cases y with
   | tmp t =>
    simp only [AS.ev, Act.eval]
    rcases Nat.lt_or_ge t sk.t.length with hlt | hge
    ·have e1 : sk.t[t]? = some sk.t[t] := List.getElem?_eq_getElem hlt
     have hlt' : t < (A x).tmps.size := by rw [← hI.size x]; exact hlt
     have hx : (A x).tmps[t]? = some (A x).tmps[t] := Array.getElem?_eq_getElem hlt'
     rw [getD_some e1]
     have : (A x).tmps.getD t Go.undef = (A x).tmps[t] := by simp [Array.getD, hlt']
     rw [this]
     exact hlook x wr hE hD t _ _ (List.mem_append_left _ (List.mem_filterMap.2 ⟨.tmp t, hy, rfl⟩)) e1 hx
    ·rw [List.getD_eq_getElem?_getD, List.getElem?_eq_none hge]
     exact .undef _
   | const v => exact .v v
   | global gi => exact (glob_ra hs.ro sk gi).mono (mono_below hE) (fun _ _ h => h)
   | func f => exact .fn f [] [] #[] #[] rfl rfl (fun i c x h => by simp at h) (fun i c x h => by simp at h)
  -- it is carried out
  have hdo : ADoS P oo.op sk (fun r => ADrawX P l B rest (sk.put oo.dst r sk.o)) → (∀ x wr, Below w0.heap.size w0 wr → (∀ rs' i, depB l.toArray k i = true → i < k → (at' ((rs ++ rs').map (specOf D nu s.o)) i).p (x i) wr) → Region.wanted oo (yielded l.toArray (A x).tmps) = true) →
    ∃ rs', relOblT P l.toArray ((rs ++ rs').map (specOf D nu s.o)) w0 T (oo :: rest) k A := by
   intro hd hw
   obtain ⟨r, hk', hr⟩ := ados_ex hd
   rw [hI.o] at hk'
   obtain ⟨rs', hrel⟩ := adrawX_good hm0 hB hs hT rest (k + 1) _ (rs ++ [r]) _ hl' hkm (hI.step hok r) hk'
   rw [List.append_assoc, List.singleton_append] at hrel
   refine ⟨r :: rs', ⟨(fun x wr hE hD => ?_), hrel⟩⟩
   have hD' : ∀ rs'' i, depB l.toArray k i = true → i < k → (at' ((rs ++ rs'').map (specOf D nu s.o)) i).p (x i) wr := fun rs'' i h1 h2 => by
    have h3 := hD i h1
    have h5 : i < rs.length := by rw [hI.len]; exact h2
    have h4 : rs[i]? = some rs[i] := List.getElem?_eq_getElem h5
    rw [at_spec h4] at h3 ⊢
    exact h3
   obtain ⟨r', rfl, hout⟩ := adoS_good (P := P) (nu := nu) (D := D) (w := wr) (rho := (A x).eval) (by rw [hI.o]; exact hs.ro.below hE) (by rw [hI.o]; exact hevs x wr hE hD') hr
   have e := at_spec_new (D := D) (nu := nu) (o := s.o) (rs := rs) (rs' := rs') (r := r')
   rw [hI.len] at e
   refine .inl ⟨hw x wr hE hD', ?_⟩
   rw [e]
   rw [hI.o] at hout
   exact hout
  simp only [ADrawX] at h
  split at h
  ·rename_i hg
   exact hdo h (fun x wr hE hD => by simp [Region.wanted, hg])
  ·rename_i j want hg
   have hyv : ∀ g, gval l sk j = some g → ∀ x wr, Below w0.heap.size w0 wr → (∀ rs' i, depB l.toArray k i = true → i < k → (at' ((rs ++ rs').map (specOf D nu s.o)) i).p (x i) wr) → yielded l.toArray (A x).tmps j = g := fun g hgv x wr hE hD =>
    gval_good (D := D) (nu := nu) (w := wr) (fun d c v hd h1 h2 => by
     rw [hI.o]
     refine hlook x wr hE hD d c v ?_ h1 h2
     obtain ⟨og, q1, q2⟩ := hd
     refine List.mem_append_right _ ?_
     simp only [hg, List.getElem?_toArray, q1, Option.bind_some, q2]
     simp) (hI.size x) hgv
   have hskip : ADrawX P l B rest (sk.put oo.dst (.v Go.undef) sk.o) → (∀ x wr, Below w0.heap.size w0 wr → (∀ rs' i, depB l.toArray k i = true → i < k → (at' ((rs ++ rs').map (specOf D nu s.o)) i).p (x i) wr) → Region.wanted oo (yielded l.toArray (A x).tmps) = false) →
     ∃ rs', relOblT P l.toArray ((rs ++ rs').map (specOf D nu s.o)) w0 T (oo :: rest) k A := by
    intro hk' hw
    rw [hI.o] at hk'
    obtain ⟨rs', hrel⟩ := adrawX_good hm0 hB hs hT rest (k + 1) _ (rs ++ [.v Go.undef]) _ hl' hkm (hI.step hok (.v Go.undef)) hk'
    rw [List.append_assoc, List.singleton_append] at hrel
    refine ⟨.v Go.undef :: rs', ⟨(fun x wr hE hD => ?_), hrel⟩⟩
    have hD' : ∀ rs'' i, depB l.toArray k i = true → i < k → (at' ((rs ++ rs'').map (specOf D nu s.o)) i).p (x i) wr := fun rs'' i h1 h2 => by
     have h3 := hD i h1
     have h5 : i < rs.length := by rw [hI.len]; exact h2
     have h4 : rs[i]? = some rs[i] := List.getElem?_eq_getElem h5
     rw [at_spec h4] at h3 ⊢
     exact h3
    have e := at_spec_new (D := D) (nu := nu) (o := s.o) (rs := rs) (rs' := rs') (r := .v Go.undef)
    rw [hI.len] at e
    refine .inr ⟨hw x wr hE hD', ?_⟩
    rw [e]
    exact ⟨hs.ro.below hE, .v _⟩
   unfold AGd at h
   split at h
   ·rename_i b e
    cases hb : b == want
    ·rw [hb] at h
     exact hskip h (fun x wr hE hD => by simp only [Region.wanted, hg, hyv _ e x wr hE hD]; simpa using hb)
    ·rw [hb] at h
     exact hdo h (fun x wr hE hD => by simp only [Region.wanted, hg, hyv _ e x wr hE hD]; simpa using hb)
   ·rename_i e
    exact hskip h (fun x wr hE hD => by simp only [Region.wanted, hg, hyv _ e x wr hE hD]; rfl)
   ·exact h.elim
theorem ADoS_mono {op : Op} {s : AS} {K K' : AV → Prop} (h : ∀ r, K r → K' r) (hd : ADoS P op s K) : ADoS P op s K' := by
 obtain ⟨r, hk, hr⟩ := ados_ex hd
 have key : ∀ r', r' = r → K' r' := fun r' e => e ▸ h r hk
 unfold ADoS at hr ⊢
 split at hr
 ·split at hr
  ·unfold AIf at hr ⊢
   split at hr
   ·rename_i hb; rw [if_pos hb]; exact key _ hr
   ·rename_i hb; rw [if_neg hb]; exact key _ hr
  ·exact hr.elim
 ·split at hr
  ·unfold AFnS at hr ⊢
   split at hr
   ·obtain ⟨r', q1, q2⟩ := hr
    exact ⟨r', q1, key _ q2⟩
   ·exact hr.elim
  ·unfold AR1 at hr ⊢
   split at hr
   ·exact ⟨hr.1, key _ hr.2⟩
   ·exact hr.elim
 ·unfold AR1 at hr ⊢
  split at hr
  ·exact ⟨hr.1, key _ hr.2⟩
  ·exact hr.elim

theorem awp_drawT {n0 id : Nat} {s : AS} {l : List Oper} {Q : AExit → AS → Prop} (m0 : Nat) (hB : relTB l.toArray m0 = true) (hC : calmB l.toArray = true) (h : ADrawT P l (l.drop m0) (l.take m0) s (Q .normal)) : AWp P n0 (.region id l.toArray true) s Q := by
 refine .inr (fun f m D nu a w hZr hn hm hs hmx R hO hR => ?_)
 have hm0 : m0 ≤ l.length := by
  simp only [relTB, Bool.and_eq_true, decide_eq_true_eq, List.size_toArray] at hB
  exact Nat.le_of_lt hB.1.1.2
 obtain ⟨rs, hrel⟩ := adrawX_good (P := P) (T := tailT P l.toArray R) hm0 hB hs.drew (fun sk a' wr hE ho hy hsk hB' => atail_good (P := P) (f := f) (l := l) (R := R) (l.drop m0) m0 sk a' wr nu rfl hm0 hsk hB' (fun s' a2 w' nu' q1 q2 q3 q4 => hR .normal D f.Z s' a2 w' nu' (by
  rw [q2, hy]; exact m.own hm hs.ro ((mono_below (below_drew w)).trans ((mono_below hE).trans (ho ▸ q1))) q3.ro) q3 q4)) (l.take m0) 0 s [] (fun _ => a) (by simp) (Nat.zero_le _) ⟨rfl, rfl, rfl, fun _ => rfl, fun _ => hs.tm.len, fun x t c v h1 h2 => .inl ⟨h1, h2⟩⟩ h
 exact wpIn_any hmx hC hO (any_region_tail _ m0 hB hrel)

/-! ### the tail may call yield -/
theorem stOk_in {r : Option Nat} {n : Nat} {ops : Array Oper} (hC : calmB ops = true) (R : Exit → Act → World → Prop) : StOk P ops (wpOpIn (WF r) n P ops R) := ⟨fun h k => wpOpIn_mono h k, fun {i o S K a w} hi h next => by
 unfold wpOpIn
 simp only [hi]
 rcases h with ⟨h1, h2⟩ | ⟨h1, h2⟩
 ·rw [if_pos h1]
  refine ⟨fun f _ => trivial, ?_⟩
  rw [calm_sem hC hi]
  generalize (execOp a.eval o).run P w = r at h2
  cases r with
  | halt _ _ => exact h2.elim
  | ok n w' =>
   cases n <;> first | exact h2.elim | skip
   case value u => exact next _ _ h2.1 h2.2
   case skip => exact next _ _ h2.1 h2.2
   case enter f args =>
    refine ⟨fun e => (by cases e), callsIn_WF (Calls.mono h2 fun e w'' he => ?_)⟩
    obtain ⟨v, rfl, hv, hb⟩ := he
    exact next _ _ hv hb
 ·rw [if_neg (by rw [h1]; decide)]
  exact ⟨fun f _ => trivial, next _ _ h2 (Below.refl _ _)⟩⟩
theorem anyIn_G {r : Option Nat} {n : Nat} {ops : Array Oper} {R : Exit → Act → World → Prop} : ∀ (fuel : Nat) (listed : Array Bool) (a : Act) (w : World), anyG (wpOpIn (WF r) n P ops R) ops (R .normal) fuel listed a w → wpAnyIn (WF r) n P .any ops R fuel listed a w
 | 0, _, _, _, h => h
 | fuel + 1, _, _, _, h => ⟨h.1, fun i hi => wpOpIn_mono (fun _ _ => anyIn_G fuel _ _ _) (h.2 i hi)⟩
theorem listIn_G {r : Option Nat} {n : Nat} {l : List Oper} {R : Exit → Act → World → Prop} : ∀ (m k : Nat) (a : Act) (w : World), k + m = l.length → wpListIn (WF r) n P l.toArray R (l.drop k) a w → seqG (wpOpIn (WF r) n P l.toArray R) (R .normal) (List.range' k m) a w
 | 0, k, a, w, hk, h => by
  rw [List.drop_eq_nil_of_le (by omega)] at h
  exact h
 | m + 1, k, a, w, hk, h => by
  have hlt : k < l.length := by omega
  rw [List.drop_eq_getElem_cons hlt] at h
  rw [List.range'_succ]
  simp only [seqG, wpOpIn, List.getElem?_toArray, List.getElem?_eq_getElem hlt]
  simp only [wpListIn] at h
  split at h
  ·rename_i hw
   rw [if_pos hw]
   exact Oper.wpIn_mono (fun a w h => listIn_G m (k + 1) a w (by omega) h) h
  ·rename_i hw
   rw [if_neg hw]
   exact ⟨h.1, listIn_G m (k + 1) _ w (by omega) h.2⟩
theorem awp_drawY {n0 id : Nat} {s : AS} {l : List Oper} {Q : AExit → AS → Prop} (m0 : Nat) (hB : relTB l.toArray m0 = true) (hC : calmB l.toArray = true) (h : ADrawX P l (fun s => AOps P l (l.drop m0) s (Q .normal)) (l.take m0) s) : AWp P n0 (.region id l.toArray true) s Q := by
 refine .inr (fun f m D nu a w hZr hn hm hs hmx R hO hR => ?_)
 have hm0 : m0 ≤ l.length := by
  simp only [relTB, Bool.and_eq_true, decide_eq_true_eq, List.size_toArray] at hB
  exact Nat.le_of_lt hB.1.1.2
 have hcalm : ∀ oo, oo ∈ l.drop m0 → ∀ c, oo.op ≠ .defer c := fun oo ho c e => by
  unfold calmB at hC
  rw [Array.all_eq_true_iff_forall_mem] at hC
  have h2 := hC oo (by simpa using List.mem_of_mem_drop ho)
  rw [e] at h2; cases h2
 obtain ⟨rs, hrel⟩ := adrawX_good (P := P) (T := fun k => seqG (wpOpIn (WF f.r) 9 P l.toArray R) (R .normal) (List.range' k (l.length - k))) hm0 hB hs.drew (fun sk a' wr hE ho hy hsk hB' => listIn_G _ _ _ _ (by omega) (aops_good m hZr _ sk a' wr D nu hcalm (by
  rw [ho, hy]; exact m.own hm hs.ro ((mono_below (below_drew w)).trans (mono_below hE)) (ho ▸ hsk.ro)) hsk hB' (fun D' s' a2 w2 nu' q1 q2 q3 => hR .normal D' f.Z s' a2 w2 nu' q1 q2 q3))) (l.take m0) 0 s [] (fun _ => a) (by simp) (Nat.zero_le _) ⟨rfl, rfl, rfl, fun _ => rfl, fun _ => hs.tm.len, fun x t c v h1 h2 => .inl ⟨h1, h2⟩⟩ h
 exact wpIn_region_any hmx (anyIn_G _ _ _ _ (any_region_tailG _ (fun _ => false) (fun i v w h => by cases h) m0 (stOk_in hC R) hB (relOblF_of _ _ _ hrel)))

/-! ### by itself: the tail begins at the first operation that turns memory -/
def isEff : Op → Bool
 | .alloc _ | .store .. | .mapUpdate .. | .insert .. | .makeSlice .. | .makeMap .. => true
 | .call c => match c.callee with
  | .builtin .append | .builtin .copy | .builtin .delete | .builtin .clear => true
  | _ => false
 | _ => false
def effAt : List Oper → Nat
 | [] => 0
 | o :: l => if isEff o.op then 0 else effAt l + 1
def ADrawE (P : Program) (all : List Oper) : List Oper → AS → (AS → Prop) → Prop
 | [], s, Q => Q s
 | oo :: rest, s, Q => if isEff oo.op then ATail P all (oo :: rest) s Q else AStepS P all oo s (fun s' => ADrawE P all rest s' Q)
theorem adrawE_T (all : List Oper) : ∀ (l : List Oper) (s : AS) (Q : AS → Prop), ADrawE P all l s Q → ADrawT P all (l.drop (effAt l)) (l.take (effAt l)) s Q
 | [], s, Q, h => h
 | oo :: rest, s, Q, h => by
  simp only [ADrawE] at h
  by_cases he : isEff oo.op = true
  ·rw [if_pos he] at h
   simpa only [effAt, he, if_true, List.drop_zero, List.take_zero, ADrawT, ADrawX] using h
  ·rw [if_neg he] at h
   simp only [effAt, he, if_false, List.drop_succ_cons, List.take_succ_cons, ADrawT, ADrawX, Bool.false_eq_true]
   unfold AStepS at h
   split at h
   ·rename_i hg
    simp only [hg]
    exact ADoS_mono (fun r hr => adrawE_T all rest _ Q hr) h
   ·rename_i j want hg
    simp only [hg]
    unfold AGd at h ⊢
    split at h
    ·rename_i b e
     unfold AIf at h ⊢
     split at h
     ·rename_i hb; rw [if_pos hb]; exact ADoS_mono (fun r hr => adrawE_T all rest _ Q hr) h
     ·rename_i hb; rw [if_neg hb]; exact adrawE_T all rest _ Q h
    ·rename_i e
     exact adrawE_T all rest _ Q h
    ·exact h.elim
theorem awp_drawE {n0 id : Nat} {s : AS} {l : List Oper} {Q : AExit → AS → Prop} (hB : relTB l.toArray (effAt l) = true) (hC : calmB l.toArray = true) (h : ADrawE P l l s (Q .normal)) : AWp P n0 (.region id l.toArray true) s Q :=
 awp_drawT (effAt l) hB hC (adrawE_T l l s _ h)
theorem adrawE_k {all rest : List Oper} {oo : Oper} {s : AS} {Q : AS → Prop} (he : isEff oo.op = false) (h : ∀ K : AS → Prop, (∀ s', ADrawE P all rest s' Q → K s') → AStepS P all oo s K) : ADrawE P all (oo :: rest) s Q := by
 simp only [ADrawE, he, Bool.false_eq_true, if_false]
 exact h _ (fun _ h => h)
theorem adrawE_eff {all rest : List Oper} {oo : Oper} {s : AS} {Q : AS → Prop} (he : isEff oo.op = true) (h : ATail P all (oo :: rest) s Q) : ADrawE P all (oo :: rest) s Q := by
 simpa only [ADrawE, he, if_true] using h
theorem adrawE_nil {all : List Oper} {s : AS} {Q : AS → Prop} (h : Q s) : ADrawE P all [] s Q := h
theorem atail_k {all rest : List Oper} {oo : Oper} {s : AS} {Q : AS → Prop} (h : ∀ K : AS → Prop, (∀ s', ATail P all rest s' Q → K s') → AStepD P all oo s K) : ATail P all (oo :: rest) s Q := h _ (fun _ h => h)
theorem atail_nil {all : List Oper} {s : AS} {Q : AS → Prop} (h : Q s) : ATail P all [] s Q := h
theorem adrawT_nil {all tail : List Oper} {s : AS} {Q : AS → Prop} (h : ATail P all tail s Q) : ADrawT P all tail [] s Q := h
@[go_sem] theorem astepd_plain (all : List Oper) (dst : Option Tmp) (op : Op) (ty : TypeId) (pos : String) (aft : Array Edge) (s : AS) (K : AS → Prop) :
  AStepD P all ⟨dst, op, ty, pos, aft, none⟩ s K = ADo P op s (fun r o' => K (s.put dst r o')) := rfl
@[go_sem] theorem astepd_guard (all : List Oper) (dst : Option Tmp) (op : Op) (ty : TypeId) (pos : String) (aft : Array Edge) (j : Nat) (want : Bool) (s : AS) (K : AS → Prop) :
  AStepD P all ⟨dst, op, ty, pos, aft, some (j, want)⟩ s K = AGd (gval all s j) want (ADo P op s (fun r o' => K (s.put dst r o'))) (K (s.put dst (.v Go.undef) s.o)) := rfl
end
end Go.Proofs.YtfflpdekojlnmaaDoor

/-! The abstract walk: its rules, found by the form of what is asked. -/
set_option linter.unusedSimpArgs false
set_option linter.unusedVariables false
namespace Go.Proofs.YtfflpdekojlnmaaDoor
open Go.RowKit

class Stp (G : Prop) (H : outParam Prop) : Prop where
 up : H → G

section
variable {P : Program} {all rest tail : List Oper} {n0 : Nat} {s : AS} {Q : AExit → AS → Prop} {R K : AS → Prop} {oo o2 : Oper} {i : Nat} {c d : Code} {x : Operand} {l : List Oper} {bx : List Bx} {k : Nat}
theorem adrawX_k {B : AS → Prop} (h : ∀ K : AS → Prop, (∀ s', ADrawX P all B rest s' → K s') → AStepS P all oo s K) : ADrawX P all B (oo :: rest) s := by
 have := h _ (fun _ h => h)
 unfold AStepS at this
 simp only [ADrawX]
 split at this <;> simp_all
instance {B : AS → Prop} : Stp (ADrawX P all B (oo :: rest) s) (∀ K : AS → Prop, (∀ s', ADrawX P all B rest s' → K s') → AStepS P all oo s K) := ⟨adrawX_k⟩
instance : Stp (ADrawX P all (fun s => AOps P all tail s R) [] s) (AOps P all tail s R) := ⟨fun h => h⟩
instance : Stp (AOps P all [] s R) (R s) := ⟨aops_nil⟩
instance : Stp (AOps P all (oo :: rest) s R) (∀ K : AS → Prop, (∀ s', AOps P all rest s' R → K s') → AStep P all oo s K) := ⟨aops_k⟩
instance {dst : Option Tmp} {op : Op} {ty : TypeId} {pos : String} {aft : Array Edge} : Stp (ADraw P all [⟨dst, op, ty, pos, aft, none⟩] s R) (∀ K : AS → Prop, (∀ s', R s' → K s') → ADo P op s (fun r o' => K (s.put dst r o'))) := ⟨adraw_last⟩
instance : Stp (ADraw P all (oo :: o2 :: rest) s R) (∀ K : AS → Prop, (∀ s', ADraw P all (o2 :: rest) s' R → K s') → AStepS P all oo s K) := ⟨adraw_k⟩
instance : Stp (AWp P n0 (.seq c d) s Q) (∀ K : AS → Prop, (∀ s', AWp P n0 d s' Q → K s') → AWp P n0 c s (ASeq K Q)) := ⟨awp_seq⟩
instance : Stp (AWp P n0 (.region i l.toArray false) s Q) (AOps P l l s (Q .normal)) := ⟨awp_region⟩
instance : Stp (AWp P n0 .skip s Q) (Q .normal s) := ⟨awp_skip⟩
instance : Stp (AWp P n0 (.block i c) s Q) (AWp P n0 c s (ABlk i Q)) := ⟨awp_block⟩
instance : Stp (AWp P n0 (.cond x c d) s Q) (ACnd (s.ev x) (AWp P n0 c s Q) (AWp P n0 d s Q)) := ⟨awp_cond⟩
instance : Stp (AWp P n0 (.exit i) s Q) (Q (.exit i) s) := ⟨awp_exit⟩
instance : Stp (AWp P n0 .ret s Q) (Q .ret s) := ⟨awp_ret⟩
instance : Stp (AWp P n0 (.scope c) s Q) (AWp P n0 c s (AScp Q)) := ⟨awp_scope⟩
instance : Stp (AWp P n0 (.label i) s Q) (Q .normal s) := ⟨awp_label⟩
instance : Stp (AWp P n0 (.goto i) s Q) (Q (.goto i) s) := ⟨awp_goto⟩
instance : Stp (ASeq K Q .normal s) (K s) := ⟨aseq_normal⟩
instance : Stp (ASeq K Q (.exit i) s) (Q (.exit i) s) := ⟨aseq_exit⟩
instance : Stp (ASeq K Q .ret s) (Q .ret s) := ⟨aseq_ret⟩
instance : Stp (ASeq K Q (.goto i) s) (Q (.goto i) s) := ⟨aseq_goto⟩
instance : Stp (ABlk i Q .normal s) (Q .normal s) := ⟨ablk_normal⟩
instance : Stp (ABlk i Q .ret s) (Q .ret s) := ⟨ablk_ret⟩
instance : Stp (ABlk i Q (.goto k) s) (Q (.goto k) s) := ⟨ablk_goto⟩
instance : Stp (ABlk i Q (.exit k) s) (if k = i then Q .normal s else Q (.exit k) s) := ⟨fun h => h⟩
instance : Stp (AScp Q .normal s) (Q .normal s) := ⟨ascp_normal⟩
instance : Stp (AScp Q .ret s) (Q .ret s) := ⟨ascp_ret⟩
instance : Stp (AScp Q (.exit i) s) (Q (.exit i) s) := ⟨ascp_exit⟩
instance : Stp (ADrawE P all [] s R) (R s) := ⟨adrawE_nil⟩
instance : Stp (ATail P all [] s R) (R s) := ⟨atail_nil⟩
instance : Stp (ATail P all (oo :: rest) s R) (∀ K : AS → Prop, (∀ s', ATail P all rest s' R → K s') → AStepD P all oo s K) := ⟨atail_k⟩
instance : Stp (ADrawT P all tail [] s R) (ATail P all tail s R) := ⟨adrawT_nil⟩
instance : Stp (ABox P all [] k s bx R) (bx.all (fun b => b.row.isSome) = true ∧ R (bxDone s bx)) := ⟨abox_nil⟩
end
theorem wE {P : Program} {n0 id : Nat} {s : AS} {l : List Oper} {Q : AExit → AS → Prop} (h : ADrawE P l l s (Q .normal)) (hB : relTB l.toArray (effAt l) = true := by decide +kernel) (hC : calmB l.toArray = true := by kernel_rfl) : AWp P n0 (.region id l.toArray true) s Q := awp_drawE hB hC h
theorem wK {P : Program} {all rest : List Oper} {oo : Oper} {s : AS} {Q : AS → Prop} (h : ∀ K : AS → Prop, (∀ s', ADrawE P all rest s' Q → K s') → AStepS P all oo s K) (he : isEff oo.op = false := by decide) : ADrawE P all (oo :: rest) s Q := adrawE_k he h
theorem wF {P : Program} {all rest : List Oper} {oo : Oper} {s : AS} {Q : AS → Prop} (h : ATail P all (oo :: rest) s Q) (he : isEff oo.op = true := by decide) : ADrawE P all (oo :: rest) s Q := adrawE_eff he h
end Go.Proofs.YtfflpdekojlnmaaDoor
