/- Rows: what all of them share: a law's contract made a claim's; readings of arguments. -/
import Derived.Test.YteihcfhdhkamfaaRows
import Derived.Test.YteihcfhdhkamfaaAbsN
import Derived.Test.YteihcfhdhkamfaaEnc
import Derived.Test.YteihcfhdhkamfaaOpen
import Derived.WalkKit
import Derived.ProofKit
import Derived.OpenShut
namespace Go.Proofs.Yteihcfhdhkamfaa
open Go.ChangeShapes Go.WideShapes Go.ChangeAt Go.RowKit

/-- a law that holds, of a call that owns nothing of its caller's -/
theorem Call1.to_ret {P : Program} {f : FuncId} {args : List AV} {v : Value} (h : Call1 P f args (.v v)) {w : World} {vargs : Array Value} (hr : RAs (fun _ => True) (fun _ _ => Go.undef) [] w args vargs) :
    Calls P f vargs w (Ret w v) := by
  refine (h.2.2 _ _ w vargs (RO.nil _ _ _ (fun _ _ => trivial)) hr).mono fun e w' hf => ?_
  obtain ⟨x, nu', o', r, rfl, hm, _, hx, rfl, rfl⟩ := hf
  have e1 := hx.v_eq
  subst e1
  exact ⟨rfl, hm.os, hm.tape, hm.output, hm.size, fun b hb => (hm.keep b hb (owned_nil _ _)).1⟩

section
variable {H : Type} {enc : TypeId × Value → H} {w : World}
/-- an operand that came in -/
theorem trod_opd {v : Value} {d : DataW H} {ps : List MemPlace} (h : DataW.Trod enc Try.prog w 0 (fun _ => true) true 32 v d ps) (hw : ∀ k ∈ d.weights Try.prog 32, k ≤ reachBytes) :
    ∃ x : Opd, v = .agg x.cells.toArray ∧ x.ok := by
  obtain ⟨n, h⟩ := h
  have ht : Td enc Try.prog w n 32 v.cells.toList := ⟨_, h, hw⟩
  obtain ⟨m, _, hl, _⟩ := td_struct sOpd ht
  rw [cOpd] at hl
  obtain ⟨x, h1, h2⟩ := td_opd ht
  cases v with
  | agg cs => exact ⟨x, by simp only [Value.cells] at h1; rw [← h1], h2⟩
  | _ => simp [Value.cells] at hl
theorem opd_ra {D : Nat → Prop} {nu : Nat → Nat → Value} {o : List (Option AObj)} (x : Opd) : RA D nu o w (.agg (encO x)) (.agg x.cells.toArray) := by
  refine .agg _ _ rfl (fun i c y hc hy => ?_) (fun i y hy => ?_)
  · have e : (encO x) = x.cells.map AV.v := rfl
    rw [e, List.getElem?_map] at hc
    simp only [List.getElem?_toArray] at hy
    rw [hy] at hc; cases hc; exact .v y
  · have hm := List.mem_of_getElem? (show x.cells[i]? = some y by simpa using hy)
    simp [Opd.cells] at hm
    rcases hm with rfl | rfl | rfl | rfl | rfl | rfl <;> rfl
end
end Go.Proofs.Yteihcfhdhkamfaa
