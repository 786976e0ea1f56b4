/- order: which patterns are one, the normal places: the walks; slices.Collect. -/
import Derived.Test.YtokoneddljheaaaXOrdP
import Derived.Test.YtokoneddljheaaaXOnceC
import Derived.Test.YtokoneddljheaaaXAbsX
import Derived.Test.YtokoneddljheaaaXChk3
set_option linter.unusedSimpArgs false
set_option linter.unusedVariables false
namespace Go.Proofs.Ytokoneddljheaaa
open Go.RowKit

section
variable {P : Program}
/-- a call that hands own rows back, told as one whose result stays -/
theorem CallE.to1 {f : FuncId} {args : List AV} {r r' : AV} {o' : List (Option AObj)} (h : CallE P f args [] r o') (n : Nat) {p : Prop} (hz : aFrz o' n r = some (p, r')) (hp : p) (hw : wfL 0 args = true) (hw' : r'.wf 0 = true) : Call1 P f args r' := by
  refine ⟨⟨hw, hw'⟩, h.1, fun D nu w vargs hro hra => (h.2 D nu w vargs hro hra).mono ?_⟩
  rintro e w' ⟨v, nu', o'', r'', rfl, hm, hro', hx, rfl, rfl⟩
  exact ⟨v, nu', [], r', rfl, ⟨hm.os, hm.tape, hm.output, hm.size, fun id len hh => by obtain ⟨ob, h1, _⟩ := hh; simp at h1, fun b hb hno => ⟨(hm.keep b hb (owned_nil _ _)).1, owned_nil _ _⟩⟩, (.nil _ _ _ hro'.up (hro'.gl.nil (fun _ _ h => h))), (frz_both hro' n).1 _ _ _ _ hz hp hx, rfl, rfl⟩
end

/-- numbers, one behind the other -/
def encN (l : List Nat) : List (List AV) := l.map (fun k : Nat => [.v (.int .i64 (k : Int))])
end Go.Proofs.Ytokoneddljheaaa
