/- Two queries are the same if and only if they are one: plain laws. -/
import Derived.Test.YtokoneddljheaaaABase2
namespace Go.Proofs.Ytokoneddljheaaa
open Go.RowKit

theorem toList_inj {s t : ByteArray} : (s.toList == t.toList) = true ↔ s = t := by
  refine ⟨fun h => ?_, fun h => by subst h; simp⟩
  have h := eq_of_beq h
  rw [ByteArray.toList_eq, ByteArray.toList_eq] at h
  obtain ⟨⟨l⟩⟩ := s
  obtain ⟨⟨m⟩⟩ := t
  have h : l = m := h
  subst h; rfl
theorem all2_eq {α : Type} {f : α → α → Bool} : ∀ (xs ys : List α), (∀ x ∈ xs, ∀ y, f x y = true ↔ x = y) → (all2 f xs ys = true ↔ xs = ys)
  | [], [], _ => by simp [all2]
  | [], _ :: _, _ => by simp [all2]
  | _ :: _, [], _ => by simp [all2]
  | x :: xs, y :: ys, h => by
    rw [all2, Bool.and_eq_true, h x (by simp), all2_eq xs ys (fun a ha => h a (by simp [ha]))]
    simp
theorem exSame_eq : ∀ x y : Ex, exSame x y = true ↔ x = y := by
  intro x
  induction x using Ex.ind with
  | h k s l ih =>
    rintro ⟨k', s', l'⟩
    rw [exSame_iff_kids, Bool.and_eq_true, Bool.and_eq_true, toList_inj, all2_eq l l' ih, beq_iff_eq]
    simp [and_assoc]
end Go.Proofs.Ytokoneddljheaaa
