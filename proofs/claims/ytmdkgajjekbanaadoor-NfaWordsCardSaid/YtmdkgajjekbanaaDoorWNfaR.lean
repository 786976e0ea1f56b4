/- nfa in plain Lean: the walks that the laws go. -/
import Derived.Test.YtmdkgajjekbanaaDoorWLaw07b
set_option linter.unusedSimpArgs false
set_option linter.unusedVariables false
namespace Go.Proofs.YtmdkgajjekbanaaDoor

theorem bits_eq {m n : BitVec 32} (h : ∀ q, m.getLsbD q = true ↔ n.getLsbD q = true) : m = n := by
  refine BitVec.eq_of_getLsbD_eq fun q _ => ?_
  exact Bool.eq_iff_iff.2 (h q)
/-- as numbers of Go's -/
def intsN (l : List Nat) : List Int := l.map (fun (p : Nat) => (p : Int))
theorem encN_ints (l : List Nat) : encN l = (intsN l).map encI := by rw [encN, intsN, List.map_map]; rfl
theorem intsN_len (l : List Nat) : (intsN l).length = l.length := by rw [intsN, List.length_map]
theorem fromM_bits {s : NSt} (ok : NOk s) {m : BitVec 32} (h : ∀ p, m.getLsbD p = true → p ≤ s.labs.length) : fromM s (intsN (bitsM m)) = m := by
  refine bits_eq fun q => ?_
  rw [fromM, fromM_get ok, intsN]
  simp only [BitVec.getLsbD_zero, Bool.false_eq_true, false_or, List.mem_map, Int.natCast_inj, exists_eq_right, bitsM_mem]
  exact ⟨fun h => h.1, fun k => ⟨k, h q k⟩⟩
theorem ofM0_get {p : Nat} : (ofM 0).getLsbD p = true ↔ p = 0 := by rw [ofM_get, decide_eq_true_eq]; omega
theorem run_bd {s : NSt} (ok : NOk s) (w : List ByteArray) : ∀ p, (runM s w).getLsbD p = true → p ≤ s.labs.length := by
  rcases List.eq_nil_or_concat w with rfl | ⟨v, x, rfl⟩
  · intro p hp
    have := ofM0_get.1 hp; omega
  · rw [List.concat_eq_append, runM_snoc]
    intro p hp
    obtain ⟨_, _, h, _⟩ := (stepM_get ok).1 hp
    exact (ok.fol _ _ h).2
/-- is any of some among others -/
def anyB (a b : List Nat) : Bool := a.any (fun p => b.any (fun q => (q : Int) == (p : Int)))
theorem anyB_iff {a b : List Nat} : anyB a b = true ↔ ∃ p, p ∈ a ∧ p ∈ b := by
  simp only [anyB, List.any_eq_true, beq_iff_eq, Int.natCast_inj]
  constructor
  · rintro ⟨p, h1, q, h2, rfl⟩; exact ⟨q, h1, h2⟩
  · rintro ⟨p, h1, h2⟩; exact ⟨p, h1, p, h2, rfl⟩
theorem and_any (m n : BitVec 32) : (m &&& n != 0#32) = anyB (bitsM m) (bitsM n) := by
  rw [Bool.eq_iff_iff, anyB_iff, bne_iff_ne]
  simp only [bitsM_mem]
  constructor
  · intro h
    by_cases hb : bitsM (m &&& n) = []
    · exact absurd (bitsM_nil hb) h
    · obtain ⟨q, hq⟩ := List.exists_mem_of_ne_nil _ hb
      have := bitsM_mem.1 hq
      rw [BitVec.getLsbD_and, Bool.and_eq_true] at this
      exact ⟨q, this⟩
  · rintro ⟨q, h1, h2⟩ e
    have : (m &&& n).getLsbD q = true := by rw [BitVec.getLsbD_and, h1, h2]; rfl
    rw [e] at this; simp at this
/-- where the law's walk ends -/
theorem ends_law {s : NSt} (ok : NOk s) (w : List ByteArray) : ((w.length == 0 && s.em) || anyB (bitsM (runM s w)) (bitsM s.la)) = takesM s w := by
  rw [takesM, ← and_any]
  by_cases h0 : w.length = 0
  · rw [if_pos h0, h0]
    obtain rfl := List.eq_nil_of_length_eq_zero h0
    have : (runM s [] &&& s.la != 0#32) = false := by
      rw [and_any, ← Bool.not_eq_true, anyB_iff]
      rintro ⟨p, h1, h2⟩
      have h3 := ofM0_get.1 (bitsM_mem.1 h1)
      have := ok.la p (bitsM_mem.1 h2)
      omega
    rw [this]; simp
  · rw [if_neg h0, beq_eq_false_iff_ne.2 h0]; simp
theorem newM_em (x : Ex) : (newM x).em = emptyB x ∨ exRight x = false := by
  rcases Bool.eq_false_or_eq_true (exRight x) with h | h
  · left
    have hn := lab_le h
    have B := bld_law x (st0 x) (by simp [st0]) (by simp [st0]; exact hn)
    show (bld x (st0 x)).1.em = _
    rw [B.em]; rfl
  · exact .inr h
end Go.Proofs.YtmdkgajjekbanaaDoor
