/- The table of math/bits, as the rows lay it; numbers that came in. -/
import Derived.Test.YtmdkgajjekbanaaDoorRows
import Derived.Test.YtmdkgajjekbanaaDoorTOpenX
import Derived.Test.YtmdkgajjekbanaaDoorTBits
import Derived.LaidMore
import Derived.OpenShut
set_option linter.unusedSimpArgs false
set_option linter.unusedVariables false
namespace Go.Proofs.YtmdkgajjekbanaaDoor
open Go.ChangeShapes Go.WideShapes Go.ChangeAt Go.RowKit

theorem gTab : Tryd.prog.globalNamed "math/bits.deBruijn32tab" = some 0 := by kernel_rfl
theorem tTab : (Tryd.prog.globals[0]?).map (·.type) = some 120 := by kernel_rfl
theorem uTab : Tryd.prog.underlying 120 = some (.array 32 5) := by kernel_rfl
theorem uByte : Tryd.prog.underlying 5 = some (.int .u8) := by kernel_rfl
theorem dTab : (Rows.laid_math_bits_deBruijn32tab : DataW Unit) = .agg (tab32.map fun i => .lit (.int .u8 i)) := rfl
theorem glob_laid {w : World} (h : laidMetH Tryd.prog [("math/bits.deBruijn32tab", Rows.laid_math_bits_deBruijn32tab)] w) : GlobOk (fun _ => True) (fun _ _ => Go.undef) [] w := by
  rw [MakeChecks.laidMetH_plain _ _ _ (by kernel_rfl)] at h
  obtain ⟨ps, ⟨g0, t0, cs0, f0, p0, q0, hg0, ht0, hv0, hd0, hq, hps⟩, hnd, hc⟩ := h
  obtain rfl := Option.some.inj (gTab.symm.trans hg0)
  obtain rfl := Option.some.inj (tTab.symm.trans ht0)
  rw [dTab] at hd0
  obtain ⟨xs, m, rfl, hx, hlen, hn, hel⟩ := DataW.trod_array uTab hd0
  have c8 : Tryd.prog.cellsOf 5 = 1 := by kernel_rfl
  have c32 : Tryd.prog.cellsOf 120 = 32 := by kernel_rfl
  have hxs : xs.map (·.1) = tab32.map fun i => (DataW.lit (.int .u8 i) : DataW Unit) := by
    simp only [Prod.mk.injEq, DataW.agg.injEq] at hx; exact hx.1.symm
  rw [c32] at hlen
  rw [c8] at hel
  have hcs : cs0.toList = tab32.map (fun i => Value.int .u8 i) := by
    refine List.ext_getElem (by rw [hlen]; rfl) fun i h1 h2 => ?_
    have hi : i < 32 := by omega
    have e1 := hel i hi
    rw [Nat.mul_one, List.drop_eq_getElem_cons h1, List.take_succ_cons, List.take_zero] at e1
    have hix : i < xs.length := by omega
    rw [List.getElem?_eq_getElem hix] at e1
    obtain ⟨n, k1, k2, _⟩ := DataW.trod_int uByte e1
    have e2 : (xs.map (·.1))[i]? = (tab32.map fun i => (DataW.lit (.int .u8 i) : DataW Unit))[i]? := by rw [hxs]
    have hit : i < tab32.length := hi
    rw [List.getElem?_map, List.getElem?_map, List.getElem?_eq_getElem hix, List.getElem?_eq_getElem hit, k2] at e2
    simp only [Option.map_some, Option.some.injEq, DataW.lit.injEq, Lit.int.injEq, true_and] at e2
    rw [List.getElem_map, ← e2]
    exact (List.cons.inj k1).1
  intro g T cs hg
  have hgg : g = 0 ∧ cs = (tab32.map (fun i => Value.int .u8 i)).toArray := by
    unfold globs at hg
    split at hg
    · rename_i e
      obtain ⟨-, rfl⟩ := Prod.mk.inj (Option.some.inj hg)
      exact ⟨e, rfl⟩
    · cases hg
  obtain ⟨rfl, rfl⟩ := hgg
  refine ⟨?_, owned_nil' _ _, trivial⟩
  obtain ⟨⟨c, t, hb⟩, _⟩ := hc 0 0 (by
    rw [hps, List.append_assoc]
    refine List.mem_append_left _ ?_
    rw [MemPlace.row, List.mem_map]
    refine ⟨0, ?_, rfl⟩
    rw [List.mem_range, ← Array.length_toList, hlen]; decide)
  simp only [World.var?, hg0, Option.bind_some, hb, Option.some.injEq] at hv0
  refine ⟨t, ?_⟩
  rw [hb, hv0, ← hcs, Array.toArray_toList]
section
variable {H : Type} {enc : TypeId × Value → H} {w : World}
end
end Go.Proofs.YtmdkgajjekbanaaDoor

namespace Go.Proofs.YtmdkgajjekbanaaDoor
open Go.RowKit

theorem encN_at {l : List Nat} {k : Nat} {x : List AV} (h : (encN l)[k]? = some x) : ∃ hk : k < l.length, x = [.v (.int .i64 (l[k] : Nat))] := by
  obtain ⟨h1, h2⟩ := List.getElem?_eq_some_iff.1 h
  simp only [encN, List.length_map] at h1
  exact ⟨h1, by rw [← h2]; simp [encN]⟩
theorem awp_rangeSet {n0 : Nat} {Q : AExit → AS → Prop} {t : List AV} {o : List (Option AObj)} {y : YSt} {g : Operand} {ps : Array Tmp} {assign body : Code} (m : BitVec 32) (id : Nat) (ho : o[id]? = some (some (boxM m))) (mm : Nat) (O : Nat → List (Option AObj)) (ok : Nat → Prop) (h0 : ok 0)
    (hg : (AS.mk t o y).ev g = .fn 82 [] [.ptr id 0 1 0 0]) (hdead : (O 0)[id]? = some none) (hwk : Wk n0 ⟨t, o, y⟩ ⟨keepT mm t, O 0, y⟩) (hA : okCode assign = true) (hB : okCode body = true) (hps : ps.size = 1)
    (hround : ∀ k (hk : k < (bitsM m).length), ok k → AWp Tryd.prog (O 0).length assign ⟨setAll ps.toList [.v (.int .i64 ((bitsM m)[k] : Nat))] (keepT mm t), O k, y⟩ (ARound Tryd.prog (O 0).length body (AEndR (O 0).length (keepT mm t) (ok (k + 1)) (O (k + 1)) y Q)))
    (hfin : ok (bitsM m).length → Q .normal ⟨keepT mm t, O (bitsM m).length, y⟩) : AWp Tryd.prog n0 (.rangeFunc g ps assign body) ⟨t, o, y⟩ Q := by
  have hl : (encN (bitsM m)).length = (bitsM m).length := by simp [encN]
  refine awp_rangeI (all_seq m) [id] (by simp) ?_ ?_ O (fun _ => y) ok h0 (keepT mm t) ?_ (by rfl) ?_ hwk hA hB ?_ ?_ (by rw [hl]; exact hfin)
  · simp only [List.map_cons, List.map_nil, ho, Option.map_some]; rfl
  · intro k ob hk
    match k, hk with
    | 0, hk => cases hk; rfl
    | k + 1, hk => simp at hk
  · rw [hg]; rfl
  · intro i hi ob
    obtain rfl : i = id := by simpa using hi
    rw [hdead]; intro h; cases h
  · intro x hx
    obtain ⟨p, _, rfl⟩ := List.mem_map.1 hx
    exact hps.symm
  · intro k x hk hx
    obtain ⟨hlt, rfl⟩ := encN_at hx
    exact hround k hlt hk

def ofM (p : Int) : BitVec 32 := if 0 ≤ p ∧ p ≤ 24 then 1#32 <<< p.toNat else 0#32
theorem ofM_get {p : Int} {i : Nat} : (ofM p).getLsbD i = decide (0 ≤ p ∧ p ≤ 24 ∧ i = p) := by
  rw [ofM]
  split
  · rename_i h
    rw [BitVec.getLsbD_shiftLeft, BitVec.getLsbD_one, Bool.eq_iff_iff]
    simp; omega
  · rename_i h
    rw [BitVec.getLsbD_zero, eq_comm, decide_eq_false_iff_not]; omega
set_option maxRecDepth 100000 in
theorem of_c (p : Int) : Call1 Tryd.prog 53 [.v (.int .i64 p)] (encM (ofM p)) := by
  have hS : 0 ≤ p ∧ p ≤ 24 → IntKind.u32.wrap (1 * 2 ^ min p.toNat 32) = ((ofM p).toNat : Nat) := fun h => by
    have e : min p.toNat 32 = p.toNat := by omega
    rw [ofM, if_pos h, e, msk_shl]
  have hZ : ¬ (0 ≤ p ∧ p ≤ 24) → ofM p = 0#32 := fun h => by rw [ofM, if_neg h]
  simp only [encM]
  rcases Int.lt_or_le p 0 with h1 | h1
  · have b1 : decide (p < 0) = true := decide_eq_true h1
    rw [hZ (by omega)]
    (refine Call1.enter Tryd.func53 rfl (by kernel_rfl) (by kernel_rfl) rfl (by first | rfl | (simp only [go_sem, Bool.and_self, Bool.and_true, Bool.true_and])) (by first | rfl | (simp only [go_sem, Bool.and_self, Bool.and_true, Bool.true_and])) ?_; simp only [Tryd.ntmps53, Tryd.results53, List.length_cons, List.length_nil, Nat.reduceAdd, Nat.reduceSub, List.replicate_succ, List.replicate_zero, List.cons_append, List.nil_append])
    repeat (first | (with_reducible first | refine Stp.up ?_ | refine fun (K : AS → Prop) hK => ?_ | refine wE ?_ | refine wD ?_ | refine wK ?_ | refine wF ?_ | refine adrawG_k (by decide) ?_ | refine adrawG_e (by decide) ?_ | (refine hK _ ?_; clear hK; clear K)) | simp only [go_sem, b1, Go.undef] | (with_reducible refine And.intro (by omega) ?_) | (clear hK; clear K))
    rfl
  · have b1 : decide (p < 0) = false := decide_eq_false (by omega)
    rcases Int.lt_or_le 24 p with h2 | h2
    · have b2 : decide (24 < p) = true := decide_eq_true h2
      rw [hZ (by omega)]
      (refine Call1.enter Tryd.func53 rfl (by kernel_rfl) (by kernel_rfl) rfl (by first | rfl | (simp only [go_sem, Bool.and_self, Bool.and_true, Bool.true_and])) (by first | rfl | (simp only [go_sem, Bool.and_self, Bool.and_true, Bool.true_and])) ?_; simp only [Tryd.ntmps53, Tryd.results53, List.length_cons, List.length_nil, Nat.reduceAdd, Nat.reduceSub, List.replicate_succ, List.replicate_zero, List.cons_append, List.nil_append])
      repeat (first | (with_reducible first | refine Stp.up ?_ | refine fun (K : AS → Prop) hK => ?_ | refine wE ?_ | refine wD ?_ | refine wK ?_ | refine wF ?_ | refine adrawG_k (by decide) ?_ | refine adrawG_e (by decide) ?_ | (refine hK _ ?_; clear hK; clear K)) | simp only [go_sem, b1, b2, Go.undef] | (with_reducible refine And.intro (by omega) ?_) | (clear hK; clear K))
      rfl
    · have b2 : decide (24 < p) = false := decide_eq_false (by omega)
      have e := hS ⟨h1, h2⟩
      have e0 : (0 ≤ p) = True := eq_true h1
      (refine Call1.enter Tryd.func53 rfl (by kernel_rfl) (by kernel_rfl) rfl (by first | rfl | (simp only [go_sem, Bool.and_self, Bool.and_true, Bool.true_and])) (by first | rfl | (simp only [go_sem, Bool.and_self, Bool.and_true, Bool.true_and])) ?_; simp only [Tryd.ntmps53, Tryd.results53, List.length_cons, List.length_nil, Nat.reduceAdd, Nat.reduceSub, List.replicate_succ, List.replicate_zero, List.cons_append, List.nil_append])
      repeat (first | (with_reducible first | refine Stp.up ?_ | refine fun (K : AS → Prop) hK => ?_ | refine wE ?_ | refine wD ?_ | refine wK ?_ | refine wF ?_ | refine adrawG_k (by decide) ?_ | refine adrawG_e (by decide) ?_ | (refine hK _ ?_; clear hK; clear K)) | simp only [go_sem, b1, b2, e, e0, Go.undef] | (with_reducible refine And.intro (by omega) ?_) | (clear hK; clear K))
set_option maxRecDepth 100000 in
theorem list_c (m : BitVec 32) : Call1 Tryd.prog 50 [encM m] (.slc 1 (encN (bitsM m)) (bitsM m).length) := by
  have A := setAll_e m
  have hb := bitsM_len m
  simp only [boxM, encM] at *
  (refine Call1.enter Tryd.func50 rfl (by kernel_rfl) (by kernel_rfl) rfl (by first | rfl | (simp only [go_sem, Bool.and_self, Bool.and_true, Bool.true_and])) (by first | rfl | (simp only [go_sem, Bool.and_self, Bool.and_true, Bool.true_and])) ?_; simp only [Tryd.ntmps50, Tryd.results50, List.length_cons, List.length_nil, Nat.reduceAdd, Nat.reduceSub, List.replicate_succ, List.replicate_zero, List.cons_append, List.nil_append])
  repeat (first | (with_reducible first | refine Stp.up ?_ | refine fun (K : AS → Prop) hK => ?_ | refine wE ?_ | refine wD ?_ | refine wK ?_ | refine wF ?_ | refine adrawG_k (by decide) ?_ | refine adrawG_e (by decide) ?_ | (refine hK _ ?_; clear hK; clear K)) | simp only [go_sem] | (with_reducible refine And.intro (by omega) ?_) | (clear hK; clear K))
  refine ACallV.fr [] A (by simp) ?_ ?_ ?_ ?_ ?_
  · rfl
  · rfl
  · rfl
  · intro k ob hk; simp at hk
  repeat (first | (with_reducible first | refine Stp.up ?_ | refine fun (K : AS → Prop) hK => ?_ | refine wE ?_ | refine wD ?_ | refine wK ?_ | refine wF ?_ | refine adrawG_k (by decide) ?_ | refine adrawG_e (by decide) ?_ | (refine hK _ ?_; clear hK; clear K)) | simp only [go_sem] | (with_reducible refine And.intro (by omega) ?_) | (clear hK; clear K))
  refine asem_turn (turn_cell (k := 0) (i := 0) (j := 0) 3 1 (by decide) rfl (by decide) rfl rfl) (by kernel_rfl) ?_
  simp only [List.length_cons, List.length_nil, Nat.reduceAdd, List.cons_append, List.nil_append, List.set_cons_zero]
  refine awp_rangeSet m 1 rfl 3 (fun k => [some ⟨37, 1, false, [[.vec 2 k]]⟩, none, some ⟨3, 1, true, encN ((bitsM m).take k)⟩]) (fun _ => True) trivial ?_ rfl ?_ (by kernel_rfl) (by kernel_rfl) rfl ?_ ?_
  · rfl
  · (refine wk_mk ?_ ?_ ?_ <;> simp only [frm, List.foldl_cons, List.foldl_nil, List.replicate_succ, List.replicate_zero, WkT, WkO, AV.v.injEq, Value.int.injEq, Value.bool.injEq, Value.string.injEq, AV.vec.injEq, AV.ptr.injEq, true_or, or_true, false_or, or_false, AObj.mk.injEq, forall_eq_apply_imp_iff, forall_eq, forall_eq', go_sem])
    rfl
  · intro k hk _
    have eS : encN ((bitsM m).take (k + 1)) = encN ((bitsM m).take k) ++ [[.v (.int .i64 ((bitsM m)[k] : Nat))]] := by rw [List.take_succ_eq_append_getElem hk, encN, List.map_append]; rfl
    have eL : (encN ((bitsM m).take k)).length = k := by simp [encN]; omega
    repeat (first | (with_reducible first | refine Stp.up ?_ | refine fun (K : AS → Prop) hK => ?_ | refine wE ?_ | refine wD ?_ | refine wK ?_ | refine wF ?_ | refine adrawG_k (by decide) ?_ | refine adrawG_e (by decide) ?_ | (refine hK _ ?_; clear hK; clear K)) | simp only [go_sem] | (with_reducible refine And.intro (by omega) ?_) | (clear hK; clear K))
    rw [eS]
    (refine wk_mk ?_ ?_ ?_ <;> simp only [frm, List.foldl_cons, List.foldl_nil, List.replicate_succ, List.replicate_zero, WkT, WkO, AV.v.injEq, Value.int.injEq, Value.bool.injEq, Value.string.injEq, AV.vec.injEq, AV.ptr.injEq, true_or, or_true, false_or, or_false, AObj.mk.injEq, forall_eq_apply_imp_iff, forall_eq, forall_eq', go_sem])
  · intro _
    have e1 : (bitsM m).take (bitsM m).length = bitsM m := List.take_length
    have eL : (encN (bitsM m)).length = (bitsM m).length := by simp [encN]
    repeat (first | (with_reducible first | refine Stp.up ?_ | refine fun (K : AS → Prop) hK => ?_ | refine wE ?_ | refine wD ?_ | refine wK ?_ | refine wF ?_ | refine adrawG_k (by decide) ?_ | refine adrawG_e (by decide) ?_ | (refine hK _ ?_; clear hK; clear K)) | simp only [go_sem, e1] | (with_reducible refine And.intro (by omega) ?_) | (clear hK; clear K))
    rw [← eL]
    (refine AFz.of 40 rfl ?_; simp only [go_sem])
    trace_state
end Go.Proofs.YtmdkgajjekbanaaDoor
