/- Arguments that came in: an expression, texts, numbers. -/
import Derived.Test.YtokoneddljheaaaXRowK
set_option linter.unusedSimpArgs false
set_option linter.unusedVariables false
namespace Go.Proofs.Ytokoneddljheaaa
open Go.ChangeShapes Go.WideShapes Go.ChangeAt Go.RowKit

section
variable {H : Type} {enc : TypeId × Value → H} {w : World}
/-- an expression that came in -/
theorem trod_ex {v : Value} {d : DataW H} {ps : List MemPlace} (h : DataW.Trod enc Try.prog w 0 (fun _ => true) true 39 v d ps) (hw : ∀ k ∈ d.weights Try.prog 39, k ≤ reachBytes) :
    ∃ (x : Ex) (cx : List Value), v = .agg cx.toArray ∧ RdEx w x cx ∧ x.ok := by
  obtain ⟨n, h⟩ := h
  have ht : Td enc Try.prog w n 39 v.cells.toList := ⟨_, h, hw⟩
  obtain ⟨m, _, hl, _⟩ := td_struct sEx ht
  rw [cEx] at hl
  obtain ⟨x, h1, h2⟩ := td_ex n ht
  cases v with
  | agg cs => exact ⟨x, cs.toList, by simp, h1, h2⟩
  | _ => simp [Value.cells] at hl
theorem exArg_ra {D : Nat → Prop} {nu : Nat → Nat → Value} (hD : ∀ b, b < w.heap.size → D b) {x : Ex} {cx : List Value} (h : RdEx w x cx) : RA D nu [] w (.agg (encE x)) (.agg cx.toArray) := by
  obtain ⟨h1, h2⟩ := ex_ra (nu := nu) hD x cx h
  exact .agg _ _ (by simpa using h1.1) (fun i c y hc hy => h1.2 i c y hc (by simpa using hy)) (fun i y hy => h2 y (List.mem_of_getElem? (by simpa using hy)))
theorem uTexts : Try.prog.underlying 43 = some (.slice 9) := by kernel_rfl
theorem cTexts : Try.prog.cellsOf 9 = 1 := by kernel_rfl
theorem bTexts : 0 < Try.prog.bytesOf 9 := of_decide_eq_true (by kernel_rfl)
theorem trod_strs {a : Option Addr} {len cap : Nat} {d : DataW H} {ps : List MemPlace} (h : DataW.Trod enc Try.prog w 0 (fun _ => true) true 43 (.slice a len cap) d ps) (hw : ∀ k ∈ d.weights Try.prog 43, k ≤ reachBytes) :
    ∃ (l : List ByteArray), RdStrs w l (.slice a len cap) ∧ (∀ s, s ∈ l → okT s) ∧ l.length ≤ 140737488355328 := by
  obtain ⟨n, h⟩ := h
  have ht : Td enc Try.prog w n 43 [.slice a len cap] := ⟨_, h, hw⟩
  obtain ⟨xs, h2, h3, h4⟩ := td_row uTexts cTexts (by omega) bTexts ht (rd := RdStr) (okx := okT) (fun m' cs' hm hx => by
    obtain ⟨s, e1, e2⟩ := td_str uStr hx
    exact ⟨s, e1, e2⟩)
  exact ⟨xs, h2, h3, h4⟩
end
end Go.Proofs.Ytokoneddljheaaa
