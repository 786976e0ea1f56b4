/- Which package variables are laid, with what they hold: none is laid here. -/
import Derived.WalkKit
namespace Go.Proofs.Ytokoneddljheaaa
/-- the variables that are laid -/
def globs (_ : Nat) : Option (TypeId × Array Value) := none
end Go.Proofs.Ytokoneddljheaaa
