/- nfa in plain Lean: the walks that the laws go. -/
import Derived.Test.YtmdkgajjekbanaaDoorKLaw07b
import Derived.Test.YtmdkgajjekbanaaDoorKAwake08
set_option linter.unusedSimpArgs false
set_option linter.unusedVariables false
namespace Go.Proofs.YtmdkgajjekbanaaDoor

/-- as numbers of Go's -/
def intsN (l : List Nat) : List Int := l.map (fun (p : Nat) => (p : Int))
theorem ofM0_get {p : Nat} : (ofM 0).getLsbD p = true ↔ p = 0 := by rw [ofM_get, decide_eq_true_eq]; omega
/-- is any of some among others -/
def anyB (a b : List Nat) : Bool := a.any (fun p => b.any (fun q => (q : Int) == (p : Int)))
theorem anyB_iff {a b : List Nat} : anyB a b = true ↔ ∃ p, p ∈ a ∧ p ∈ b := by
  simp only [anyB, List.any_eq_true, beq_iff_eq, Int.natCast_inj]
  constructor
  · rintro ⟨p, h1, q, h2, rfl⟩; exact ⟨q, h1, h2⟩
  · rintro ⟨p, h1, h2⟩; exact ⟨p, h1, p, h2, rfl⟩
theorem and_any (m n : BitVec 32) : (m &&& n != 0#32) = anyB (bitsM m) (bitsM n) := by
  rw [Bool.eq_iff_iff, anyB_iff, bne_iff_ne]
  simp only [bitsM_mem]
  constructor
  · intro h
    by_cases hb : bitsM (m &&& n) = []
    · exact absurd (bitsM_nil hb) h
    · obtain ⟨q, hq⟩ := List.exists_mem_of_ne_nil _ hb
      have := bitsM_mem.1 hq
      rw [BitVec.getLsbD_and, Bool.and_eq_true] at this
      exact ⟨q, this⟩
  · rintro ⟨q, h1, h2⟩ e
    have : (m &&& n).getLsbD q = true := by rw [BitVec.getLsbD_and, h1, h2]; rfl
    rw [e] at this; simp at this
theorem fst_some {x : Ex} (h : Fit x) : ∀ b, ∃ q, Fst x b q := by
  induction h with
  | lab s => intro b; exact ⟨b + 1, by rw [Fst, if_pos rfl]⟩
  | many k s l hk hl _ ih =>
    intro b
    cases l with
    | nil => simp at hl
    | cons x l =>
      obtain ⟨q, hq⟩ := ih x (by simp) b
      refine ⟨q, ?_⟩
      rw [Fst]
      rcases hk with rfl | rfl
      · simp [FstS, hq]
      · simp [FstA, hq]
  | one k s x hk _ ih =>
    intro b
    obtain ⟨q, hq⟩ := ih b
    refine ⟨q, ?_⟩
    rw [Fst]
    rcases hk with rfl | rfl | rfl <;> simp [FstA, hq]
theorem lstS_some : ∀ {l : List Ex} {b : Nat}, l ≠ [] → (∀ x ∈ l, ∀ b, ∃ q, Lst x b q) → ∃ q, LstS l b q
  | [], _, h, _ => absurd rfl h
  | [x], b, _, h => by
    obtain ⟨q, hq⟩ := h x (by simp) b
    exact ⟨q, by rw [LstS]; exact .inl ⟨rfl, hq⟩⟩
  | x :: y :: l, b, _, h => by
    obtain ⟨q, hq⟩ := lstS_some (l := y :: l) (b := b + (labE x).length) (by simp) (fun z hz => h z (by simp only [List.mem_cons] at hz ⊢; exact .inr hz))
    exact ⟨q, by rw [LstS]; exact .inr hq⟩
theorem lst_some {x : Ex} (h : Fit x) : ∀ b, ∃ q, Lst x b q := by
  induction h with
  | lab s => intro b; exact ⟨b + 1, by rw [Lst, if_pos rfl]⟩
  | many k s l hk hl _ ih =>
    intro b
    obtain ⟨q, hq⟩ := lstS_some (l := l) (b := b) (by rintro rfl; simp at hl) ih
    refine ⟨q, ?_⟩
    rw [Lst]
    rcases hk with rfl | rfl
    · simp [hq]
    · simp [LstS_A hq]
  | one k s x hk _ ih =>
    intro b
    obtain ⟨q, hq⟩ := ih b
    refine ⟨q, ?_⟩
    rw [Lst]
    rcases hk with rfl | rfl | rfl <;> simp [LstA, hq]
/-- neither is empty -/
theorem newM_some {x : Ex} (hr : exRight x = true) : bitsM ((newM x).fs.getD 0 0#32) ≠ [] ∧ bitsM (newM x).la ≠ [] := by
  have N := newM_law hr
  have F := (right_fit hr).1
  obtain ⟨q, hq⟩ := fst_some F 0
  obtain ⟨r, hr⟩ := lst_some F 0
  exact ⟨List.ne_nil_of_mem (bitsM_mem.2 ((N.fst q).2 hq)), List.ne_nil_of_mem (bitsM_mem.2 ((N.lst r).2 hr))⟩
/-- a walk goes on: one more position -/
theorem run_more {s : NSt} (ok : NOk s) {w : List ByteArray} {p q : Nat} (h : (runM s w).getLsbD p = true) (h2 : (s.fs.getD p 0#32).getLsbD q = true) : (runM s (w ++ [labAt s q])).getLsbD q = true := by
  rw [runM_snoc]
  exact (stepM_get ok).2 ⟨p, h, h2, rfl⟩
/-- and where it meets a last one, its word is taken -/
theorem run_takes {s : NSt} {w : List ByteArray} {q : Nat} (hw : w ≠ []) (h : (runM s w).getLsbD q = true) (h2 : s.la.getLsbD q = true) : takesM s w = true := by
  rw [takesM, if_neg (by intro e; exact hw (List.eq_nil_of_length_eq_zero e)), and_any, anyB_iff]
  exact ⟨q, bitsM_mem.2 h, bitsM_mem.2 h2⟩
/-- a step of one position -/
theorem step_one {s : NSt} (ok : NOk s) {p m : Nat} {lab : ByteArray} (hp : p ≤ s.labs.length) : (stepM s (fromM s [(p : Int)]) lab).getLsbD m = ((s.fs.getD p 0#32).getLsbD m && ((labAt s m).toList == lab.toList)) := by
  rw [Bool.eq_iff_iff, stepM_get ok, Bool.and_eq_true, beq_iff_eq]
  have : ∀ r, (fromM s [(p : Int)]).getLsbD r = true ↔ r = p := fun r => by
    rw [fromM, fromM_get ok]
    simp only [BitVec.getLsbD_zero, Bool.false_eq_true, false_or, List.mem_singleton, Int.natCast_inj]
    omega
  constructor
  · rintro ⟨r, h1, h2, h3⟩
    obtain rfl := (this r).1 h1
    exact ⟨h2, h3⟩
  · rintro ⟨h1, h2⟩; exact ⟨p, (this p).2 rfl, h1, h2⟩
theorem any_bits (m : BitVec 32) (k : Nat) : (bitsM m).any (fun p => (p : Int) == (k : Int)) = m.getLsbD k := by
  rw [Bool.eq_iff_iff]
  simp only [List.any_eq_true, beq_iff_eq, Int.natCast_inj, bitsM_mem]
  constructor
  · rintro ⟨p, h, rfl⟩; exact h
  · intro h; exact ⟨k, h, rfl⟩
end Go.Proofs.YtmdkgajjekbanaaDoor

/- kinescopelaw08: NfaWords: the walk. -/
set_option linter.unusedSimpArgs false
set_option linter.unusedVariables false
namespace Go.Proofs.YtmdkgajjekbanaaDoor
open Go.RowKit

end Go.Proofs.YtmdkgajjekbanaaDoor
