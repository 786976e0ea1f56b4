/- How long the lists of a query are that is gone through. -/
import Derived.Test.YtokoneddljheaaaXLentQ
import Derived.Test.YtokoneddljheaaaXRef07
import Derived.Test.YtokoneddljheaaaXPlain
set_option linter.unusedSimpArgs false
set_option linter.unusedVariables false
namespace Go.Proofs.Ytokoneddljheaaa
open Go.RowKit

theorem parts_sub (x : Ex) : ∀ y, y ∈ exParts x → (exParts y).length ≤ (exParts x).length := by
  induction x using Ex.ind with
  | h k s l ih =>
    intro y hy
    rw [exParts, exsParts_eq] at hy
    rcases List.mem_cons.1 hy with rfl | hy
    · exact Nat.le_refl _
    · obtain ⟨z, hz, hy⟩ := List.mem_flatMap.1 hy
      have h1 := ih z hz y hy
      have h2 := flat_mem_le exParts l z hz
      rw [exParts_kids]; omega
theorem kids_le (x : Ex) : x.kids.length ≤ (exParts x).length := by
  obtain ⟨k, s, l⟩ := x
  rw [exParts_kids]
  have := flat_len l
  simp only [Ex.kids]; omega

end Go.Proofs.Ytokoneddljheaaa
