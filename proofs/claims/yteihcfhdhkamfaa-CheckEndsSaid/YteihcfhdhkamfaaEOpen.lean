/- How the data of a row lie in memory: what the row's reading says, in words of our readings. -/
import Derived.Test.YteihcfhdhkamfaaEBase
import Derived.ChangeArms
import Derived.Deep.Slices
import Derived.KernelRfl
import Derived.SizedLaws
import Derived.Test.YteihcfhdhkamfaaProg
set_option linter.unusedSimpArgs false
set_option linter.unusedVariables false
namespace Go.Proofs.Yteihcfhdhkamfaa
open Go.RowKit Go.ChangeShapes Go.Deep

/-- a struct's fields: type, place, size -/
def tStr (P : Program) (t : TypeId) : Option (List (TypeId × Nat × Nat)) := match P.underlying t with
  | some (.struct fs) => some (fs.toList.map fun f => (f.type, f.offset, P.cellsOf f.type))
  | _ => none

section
variable {H : Type} {enc : TypeId × Value → H} {P : Program} {w : World}

/-- some cells read as data of type t, n deep -/
def Td (enc : TypeId × Value → H) (P : Program) (w : World) (n : Nat) (t : TypeId) (cs : List Value) : Prop := ∃ y, DataW.trod enc P w 0 (fun _ => true) true n t cs = some y ∧ ∀ k ∈ y.1.weights P t, k ≤ reachBytes

end

/-! ### the data of this program -/
section
variable {H : Type} {enc : TypeId × Value → H} {w : World}
instance : Inhabited Ex := ⟨.mk 0 ⟨#[]⟩ []⟩
instance : Inhabited Opd := ⟨⟨0, ⟨#[]⟩, ⟨#[]⟩, ⟨0, 0, ⟨#[]⟩⟩⟩⟩
instance : Inhabited Cnd := ⟨⟨0, default, default⟩⟩
instance : Inhabited Pat := ⟨⟨⟨#[]⟩, ⟨#[]⟩, false, ⟨#[]⟩, ⟨#[]⟩, default⟩⟩

end
end Go.Proofs.Yteihcfhdhkamfaa
