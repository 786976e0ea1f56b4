/- Two queries are the same if and only if they are one: plain laws. -/
import Derived.Test.YteihcfhdhkamfaaOBase2
namespace Go.Proofs.Yteihcfhdhkamfaa
open Go.RowKit

theorem toList_inj {s t : ByteArray} : (s.toList == t.toList) = true ↔ s = t := by
  refine ⟨fun h => ?_, fun h => by subst h; simp⟩
  have h := eq_of_beq h
  rw [ByteArray.toList_eq, ByteArray.toList_eq] at h
  obtain ⟨⟨l⟩⟩ := s
  obtain ⟨⟨m⟩⟩ := t
  have h : l = m := h
  subst h; rfl
end Go.Proofs.Yteihcfhdhkamfaa
