/- The document's expressions (ref07): Size, Same: the walks. -/
import Derived.Test.YtmdkgajjekbanaaDoorKLentQ
import Derived.Test.YtmdkgajjekbanaaDoorKOrdP
set_option linter.unusedSimpArgs false
set_option linter.unusedVariables false
namespace Go.Proofs.YtmdkgajjekbanaaDoor
open Go.RowKit

theorem flat_mem_le {α β : Type} (f : α → List β) : ∀ (l : List α) (x : α), x ∈ l → (f x).length ≤ (l.flatMap f).length
  | y :: l, x, h => by
    rw [List.flatMap_cons, List.length_append]
    rcases List.mem_cons.1 h with rfl | h
    · omega
    · have := flat_mem_le f l x h; omega
theorem exParts_kids (k : Int) (s : ByteArray) (l : List Ex) : (exParts (.mk k s l)).length = 1 + (l.flatMap exParts).length := by
  rw [exParts, exsParts_eq, List.length_cons]; omega
theorem exParts_pos (x : Ex) : 1 ≤ (exParts x).length := by
  obtain ⟨k, s, l⟩ := x; rw [exParts_kids]; omega
theorem flat_len (l : List Ex) : l.length ≤ (l.flatMap exParts).length := by
  induction l with
  | nil => simp
  | cons x l ih => rw [List.flatMap_cons, List.length_append, List.length_cons]; have := exParts_pos x; omega

end Go.Proofs.YtmdkgajjekbanaaDoor

/- How long the lists of a query are that is gone through. -/
set_option linter.unusedSimpArgs false
set_option linter.unusedVariables false
namespace Go.Proofs.YtmdkgajjekbanaaDoor
open Go.RowKit

theorem parts_sub (x : Ex) : ∀ y, y ∈ exParts x → (exParts y).length ≤ (exParts x).length := by
  induction x using Ex.ind with
  | h k s l ih =>
    intro y hy
    rw [exParts, exsParts_eq] at hy
    rcases List.mem_cons.1 hy with rfl | hy
    · exact Nat.le_refl _
    · obtain ⟨z, hz, hy⟩ := List.mem_flatMap.1 hy
      have h1 := ih z hz y hy
      have h2 := flat_mem_le exParts l z hz
      rw [exParts_kids]; omega
theorem kids_le (x : Ex) : x.kids.length ≤ (exParts x).length := by
  obtain ⟨k, s, l⟩ := x
  rw [exParts_kids]
  have := flat_len l
  simp only [Ex.kids]; omega

end Go.Proofs.YtmdkgajjekbanaaDoor
