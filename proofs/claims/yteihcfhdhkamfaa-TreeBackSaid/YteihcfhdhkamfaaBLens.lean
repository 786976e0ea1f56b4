/- How long the lists of a query are that is gone through. -/
import Derived.Test.YteihcfhdhkamfaaBLentQ
import Derived.Test.YteihcfhdhkamfaaBRef07
import Derived.Test.YteihcfhdhkamfaaBPlain
set_option linter.unusedSimpArgs false
set_option linter.unusedVariables false
namespace Go.Proofs.Yteihcfhdhkamfaa
open Go.RowKit

theorem parts_sub (x : Ex) : ∀ y, y ∈ exParts x → (exParts y).length ≤ (exParts x).length := by
  induction x using Ex.ind with
  | h k s l ih =>
    intro y hy
    rw [exParts, exsParts_eq] at hy
    rcases List.mem_cons.1 hy with rfl | hy
    · exact Nat.le_refl _
    · obtain ⟨z, hz, hy⟩ := List.mem_flatMap.1 hy
      have h1 := ih z hz y hy
      have h2 := flat_mem_le exParts l z hz
      rw [exParts_kids]; omega
theorem kids_le (x : Ex) : x.kids.length ≤ (exParts x).length := by
  obtain ⟨k, s, l⟩ := x
  rw [exParts_kids]
  have := flat_len l
  simp only [Ex.kids]; omega
theorem ex_lens {x : Ex} {n : Nat} (h : (exParts x).length ≤ n) : x.lens n := fun y hy => by
  have h1 := parts_sub x y hy
  have h2 := kids_le y
  omega
theorem q_lens {q : Qry} (h : szQ q ≤ 400) : q.lens 1000000 := by
  obtain ⟨h1, h2⟩ := szQ_spec h
  exact ⟨by omega, by omega, by omega, fun p hp => ex_lens (by have := h2 p hp; omega)⟩

end Go.Proofs.Yteihcfhdhkamfaa
