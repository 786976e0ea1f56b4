/- The document's values (ref05): the walk of Right. Printed by gen_ref05.py. -/
import Derived.Test.YtokoneddljheaaaARef02
import Derived.Test.YtokoneddljheaaaAPlain
set_option linter.unusedSimpArgs false
set_option linter.unusedVariables false
namespace Go.Proofs.Ytokoneddljheaaa
open Go.RowKit

theorem noB_is (s : ByteArray) : (s.toList == (⟨#[]⟩ : ByteArray).toList) = noB s := by
  rw [Bool.eq_iff_iff, toList_inj]
  unfold noB
  rw [decide_eq_true_iff]
  constructor
  · rintro rfl; rfl
  · intro h
    obtain ⟨⟨l⟩⟩ := s
    cases l with
    | nil => rfl
    | cons x l => simp [ByteArray.size] at h

end Go.Proofs.Ytokoneddljheaaa
