/- The table of math/bits, as the rows lay it; numbers that came in. -/
import Derived.Test.YtmdkgajjekbanaaDoorRows
import Derived.Test.YtmdkgajjekbanaaDoorKOpenX
import Derived.Test.YtmdkgajjekbanaaDoorKBits
import Derived.LaidMore
import Derived.OpenShut
set_option linter.unusedSimpArgs false
set_option linter.unusedVariables false
namespace Go.Proofs.YtmdkgajjekbanaaDoor
open Go.ChangeShapes Go.WideShapes Go.ChangeAt Go.RowKit

theorem gTab : Tryd.prog.globalNamed "math/bits.deBruijn32tab" = some 0 := by kernel_rfl
theorem tTab : (Tryd.prog.globals[0]?).map (·.type) = some 120 := by kernel_rfl
theorem uTab : Tryd.prog.underlying 120 = some (.array 32 5) := by kernel_rfl
theorem uByte : Tryd.prog.underlying 5 = some (.int .u8) := by kernel_rfl
theorem dTab : (Rows.laid_math_bits_deBruijn32tab : DataW Unit) = .agg (tab32.map fun i => .lit (.int .u8 i)) := rfl
theorem glob_laid {w : World} (h : laidMetH Tryd.prog [("math/bits.deBruijn32tab", Rows.laid_math_bits_deBruijn32tab)] w) : GlobOk (fun _ => True) (fun _ _ => Go.undef) [] w := by
  rw [MakeChecks.laidMetH_plain _ _ _ (by kernel_rfl)] at h
  obtain ⟨ps, ⟨g0, t0, cs0, f0, p0, q0, hg0, ht0, hv0, hd0, hq, hps⟩, hnd, hc⟩ := h
  obtain rfl := Option.some.inj (gTab.symm.trans hg0)
  obtain rfl := Option.some.inj (tTab.symm.trans ht0)
  rw [dTab] at hd0
  obtain ⟨xs, m, rfl, hx, hlen, hn, hel⟩ := DataW.trod_array uTab hd0
  have c8 : Tryd.prog.cellsOf 5 = 1 := by kernel_rfl
  have c32 : Tryd.prog.cellsOf 120 = 32 := by kernel_rfl
  have hxs : xs.map (·.1) = tab32.map fun i => (DataW.lit (.int .u8 i) : DataW Unit) := by
    simp only [Prod.mk.injEq, DataW.agg.injEq] at hx; exact hx.1.symm
  rw [c32] at hlen
  rw [c8] at hel
  have hcs : cs0.toList = tab32.map (fun i => Value.int .u8 i) := by
    refine List.ext_getElem (by rw [hlen]; rfl) fun i h1 h2 => ?_
    have hi : i < 32 := by omega
    have e1 := hel i hi
    rw [Nat.mul_one, List.drop_eq_getElem_cons h1, List.take_succ_cons, List.take_zero] at e1
    have hix : i < xs.length := by omega
    rw [List.getElem?_eq_getElem hix] at e1
    obtain ⟨n, k1, k2, _⟩ := DataW.trod_int uByte e1
    have e2 : (xs.map (·.1))[i]? = (tab32.map fun i => (DataW.lit (.int .u8 i) : DataW Unit))[i]? := by rw [hxs]
    have hit : i < tab32.length := hi
    rw [List.getElem?_map, List.getElem?_map, List.getElem?_eq_getElem hix, List.getElem?_eq_getElem hit, k2] at e2
    simp only [Option.map_some, Option.some.injEq, DataW.lit.injEq, Lit.int.injEq, true_and] at e2
    rw [List.getElem_map, ← e2]
    exact (List.cons.inj k1).1
  intro g T cs hg
  have hgg : g = 0 ∧ cs = (tab32.map (fun i => Value.int .u8 i)).toArray := by
    unfold globs at hg
    split at hg
    · rename_i e
      obtain ⟨-, rfl⟩ := Prod.mk.inj (Option.some.inj hg)
      exact ⟨e, rfl⟩
    · cases hg
  obtain ⟨rfl, rfl⟩ := hgg
  refine ⟨?_, owned_nil' _ _, trivial⟩
  obtain ⟨⟨c, t, hb⟩, _⟩ := hc 0 0 (by
    rw [hps, List.append_assoc]
    refine List.mem_append_left _ ?_
    rw [MemPlace.row, List.mem_map]
    refine ⟨0, ?_, rfl⟩
    rw [List.mem_range, ← Array.length_toList, hlen]; decide)
  simp only [World.var?, hg0, Option.bind_some, hb, Option.some.injEq] at hv0
  refine ⟨t, ?_⟩
  rw [hb, hv0, ← hcs, Array.toArray_toList]
section
variable {H : Type} {enc : TypeId × Value → H} {w : World}
theorem uInts : Tryd.prog.underlying 37 = some (.slice 3) := by kernel_rfl
theorem uIntX : Tryd.prog.underlying 3 = some (.int .i64) := by kernel_rfl
theorem cInts : Tryd.prog.cellsOf 3 = 1 := by kernel_rfl
theorem bInts : 0 < Tryd.prog.bytesOf 3 := of_decide_eq_true (by kernel_rfl)
theorem trod_ints {a : Option Addr} {len cap : Nat} {d : DataW H} {ps : List MemPlace} (h : DataW.Trod enc Tryd.prog w 0 (fun _ => true) true 37 (.slice a len cap) d ps) (hw : ∀ k ∈ d.weights Tryd.prog 37, k ≤ reachBytes) :
    ∃ (l : List Int), RdInts w l (.slice a len cap) ∧ (∀ n ∈ l, (Lit.int .i64 n).wf = true) ∧ l.length ≤ 140737488355328 := by
  obtain ⟨n, h⟩ := h
  have ht : Td enc Tryd.prog w n 37 [.slice a len cap] := ⟨_, h, hw⟩
  exact td_row uInts cInts (by omega) bInts ht (rd := RdInt) (okx := fun n => (Lit.int .i64 n).wf = true) (fun m' cs' hm hx => by
    obtain ⟨s, e1, e2⟩ := td_int uIntX hx
    exact ⟨s, e1, e2⟩)
theorem ints_ra {D : Nat → Prop} {nu : Nat → Nat → Value} (hD : ∀ b, b < w.heap.size → D b) {l : List Int} {v : Value} (h : RdInts w l v) : RA D nu [] w (.slc 1 (l.map encI) l.length) v :=
  RA.of_rdSl hD (by omega) h (fun _ => rfl) (fun x _ cs hc => by subst hc; exact ⟨rls_of_vals [.int .i64 x], by simp [Value.oneCell']⟩)
end
end Go.Proofs.YtmdkgajjekbanaaDoor
