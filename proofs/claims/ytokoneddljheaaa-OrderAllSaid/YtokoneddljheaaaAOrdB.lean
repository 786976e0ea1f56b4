/- order: Ends, first, Of: the walks. -/
import Derived.Test.YtokoneddljheaaaAOrdA
import Derived.Shelf.SlicesE.DeleteFunc
set_option linter.unusedSimpArgs false
set_option linter.unusedVariables false
namespace Go.Proofs.Ytokoneddljheaaa
open Go.RowKit

set_option maxRecDepth 100000 in
set_option maxHeartbeats 4000000 in
theorem Ends_c (q : Qry) (names : List ByteArray) (k : Int) (hp : q.pats.length ≤ 1000000) (hk : -9223372036854775808 ≤ k ∧ k < 9223372036854775808) :
    Call1 Try.prog 14 [.agg (encQ q), strsA names, .v (.int .i64 k)] (.v (.int .i64 (endsN q.pats names k : Nat))) := by
  obtain ⟨ps, cs, rs, ra, sl⟩ := q
  have hU := u_ge (k := k) hk.1 hk.2 hp
  simp only [encQ, strsA] at *
  (refine Call1.enter Try.func14 rfl (by kernel_rfl) (by kernel_rfl) rfl (by first | rfl | (simp only [go_sem, Bool.and_self, Bool.and_true, Bool.true_and])) (by first | rfl | (simp only [go_sem, Bool.and_self, Bool.and_true, Bool.true_and])) ?_; simp only [Try.ntmps14, Try.results14, List.length_cons, List.length_nil, Nat.reduceAdd, Nat.reduceSub, List.replicate_succ, List.replicate_zero, List.cons_append, List.nil_append])
  repeat (first | (with_reducible first | refine Stp.up ?_ | refine fun (K : AS → Prop) hK => ?_ | refine awp_drawE (by decide +kernel) (by kernel_rfl) ?_ | refine awp_draw (by kernel_rfl) (by decide) ?_ | refine awp_boxes (by kernel_rfl) (by kernel_rfl) (by kernel_rfl) ?_ | refine adrawE_k (by decide) ?_ | refine adrawE_eff (by decide) ?_ | refine abox_plain (by decide) ?_ | refine abox_al ?_ | refine abox_st ?_ | refine adrawG_k (by decide) ?_ | refine adrawG_e (by decide) ?_) | (with_reducible refine hK _ ?_; clear hK; clear K) | simp only [go_sem, Nat.reduceAdd, Nat.reduceSub, Nat.reduceMul, Nat.reduceLeDiff, Nat.reduceEqDiff, Nat.reduceLT, Int.reduceToNat, ↓reduceIte, reduceCtorEq, Int.reduceLE, Int.reduceLT, Int.reduceNeg, Int.reduceEq, Int.reduceBEq, Int.reduceBNe] | (with_reducible refine And.intro (by omega) ?_) | (clear hK; clear K))
  by_cases hin : 0 ≤ k ∧ k < ps.length
  · rw [decide_eq_true hin] at hU
    have hlt2 : k.toNat < ps.length := by omega
    have eG := getD_map encP ps k.toNat [] hlt2
    have eN : endsN ps names k = oneB (hasB names ps[k.toNat].frm) + oneB (hasB names ps[k.toNat].to) := by
      rw [endsN, if_pos hin, List.getElem?_eq_getElem hlt2]
    generalize ps[k.toNat] = pp at eG eN
    have C1 := contains_c names pp.frm
    have C2 := contains_c names pp.to
    simp only [strsA] at C1 C2
    simp only [encP] at eG
    repeat (first | (with_reducible first | refine Stp.up ?_ | refine fun (K : AS → Prop) hK => ?_ | refine awp_drawE (by decide +kernel) (by kernel_rfl) ?_ | refine awp_draw (by kernel_rfl) (by decide) ?_ | refine awp_boxes (by kernel_rfl) (by kernel_rfl) (by kernel_rfl) ?_ | refine adrawE_k (by decide) ?_ | refine adrawE_eff (by decide) ?_ | refine abox_plain (by decide) ?_ | refine abox_al ?_ | refine abox_st ?_ | refine adrawG_k (by decide) ?_ | refine adrawG_e (by decide) ?_) | (with_reducible refine hK _ ?_; clear hK; clear K) | simp only [go_sem, Nat.reduceAdd, Nat.reduceSub, Nat.reduceMul, Nat.reduceLeDiff, Nat.reduceEqDiff, Nat.reduceLT, Int.reduceToNat, ↓reduceIte, reduceCtorEq, Int.reduceLE, Int.reduceLT, Int.reduceNeg, Int.reduceEq, Int.reduceBEq, Int.reduceBNe, hU, eG] | (with_reducible refine And.intro (by omega) ?_) | (clear hK; clear K))
    refine awp_loopK (ι := Nat) 28 (fun i => [(27, .v (.int .i64 i)), (6, .v (.int .i64 (if i = 0 then 0 else if i = 1 then oneB (hasB names pp.frm) else oneB (hasB names pp.frm) + oneB (hasB names pp.to) : Nat))), (9, .undef)]) (fun i => 2 - i) (fun i => i ≤ 2) 0 (by omega) ?_ ?_
    · (refine wk_mk ?_ ?_ ?_ <;> simp only [frm, List.foldl_cons, List.foldl_nil, List.replicate_succ, List.replicate_zero, WkT, WkO, AV.v.injEq, Value.int.injEq, Value.bool.injEq, Value.string.injEq, AV.vec.injEq, AV.ptr.injEq, true_or, or_true, false_or, or_false, AObj.mk.injEq, forall_eq_apply_imp_iff, forall_eq, forall_eq', go_sem, Nat.reduceAdd, Nat.reduceSub, Nat.reduceMul, Nat.reduceLeDiff, Nat.reduceEqDiff, Nat.reduceLT, Int.reduceToNat, ↓reduceIte, reduceCtorEq, Int.reduceLE, Int.reduceLT, Int.reduceNeg, Int.reduceEq, Int.reduceBEq, Int.reduceBNe])
      rfl
    rintro i hi K hK
    have c0 : ((0 : Nat) : Int) = 0 := rfl
    have c1 : ((1 : Nat) : Int) = 1 := rfl
    have c2 : ((2 : Nat) : Int) = 2 := rfl
    have o0 : oneB false = 0 := rfl
    have o1 : oneB true = 1 := rfl
    have w1 : IntKind.i64.wrap ((0 : Int) + 1) = 1 := rfl
    have w2 : IntKind.i64.wrap ((1 : Int) + 1) = 2 := rfl
    have hi3 : i = 0 ∨ i = 1 ∨ i = 2 := by omega
    rcases hi3 with hi0 | hi0 | hi0
    · repeat (first | (with_reducible first | refine Stp.up ?_ | refine fun (K : AS → Prop) hK => ?_ | refine awp_drawE (by decide +kernel) (by kernel_rfl) ?_ | refine awp_draw (by kernel_rfl) (by decide) ?_ | refine awp_boxes (by kernel_rfl) (by kernel_rfl) (by kernel_rfl) ?_ | refine adrawE_k (by decide) ?_ | refine adrawE_eff (by decide) ?_ | refine abox_plain (by decide) ?_ | refine abox_al ?_ | refine abox_st ?_ | refine adrawG_k (by decide) ?_ | refine adrawG_e (by decide) ?_) | (with_reducible refine hK _ ?_; clear hK; clear K) | simp only [go_sem, Nat.reduceAdd, Nat.reduceSub, Nat.reduceMul, Nat.reduceLeDiff, Nat.reduceEqDiff, Nat.reduceLT, Int.reduceToNat, ↓reduceIte, reduceCtorEq, Int.reduceLE, Int.reduceLT, Int.reduceNeg, Int.reduceEq, Int.reduceBEq, Int.reduceBNe, hi0, c0, c1, c2, decide_true, decide_false] | (with_reducible refine And.intro (by omega) ?_) | (clear hK; clear K))
      refine ACallV.one C1 ?_
      rcases Bool.eq_false_or_eq_true (hasB names pp.frm) with ha | ha
      · repeat (first | (with_reducible first | refine Stp.up ?_ | refine fun (K : AS → Prop) hK => ?_ | refine awp_drawE (by decide +kernel) (by kernel_rfl) ?_ | refine awp_draw (by kernel_rfl) (by decide) ?_ | refine awp_boxes (by kernel_rfl) (by kernel_rfl) (by kernel_rfl) ?_ | refine adrawE_k (by decide) ?_ | refine adrawE_eff (by decide) ?_ | refine abox_plain (by decide) ?_ | refine abox_al ?_ | refine abox_st ?_ | refine adrawG_k (by decide) ?_ | refine adrawG_e (by decide) ?_) | (with_reducible refine hK _ ?_; clear hK; clear K) | simp only [go_sem, Nat.reduceAdd, Nat.reduceSub, Nat.reduceMul, Nat.reduceLeDiff, Nat.reduceEqDiff, Nat.reduceLT, Int.reduceToNat, ↓reduceIte, reduceCtorEq, Int.reduceLE, Int.reduceLT, Int.reduceNeg, Int.reduceEq, Int.reduceBEq, Int.reduceBNe, ha, o1, w1] | (with_reducible refine And.intro (by omega) ?_) | (clear hK; clear K))
        exact LNext.mk 1 (by omega) (by omega) (by
          (try simp only [ha]); (refine wk_mk ?_ ?_ ?_ <;> simp only [frm, List.foldl_cons, List.foldl_nil, List.replicate_succ, List.replicate_zero, WkT, WkO, AV.v.injEq, Value.int.injEq, Value.bool.injEq, Value.string.injEq, AV.vec.injEq, AV.ptr.injEq, true_or, or_true, false_or, or_false, AObj.mk.injEq, forall_eq_apply_imp_iff, forall_eq, forall_eq', go_sem, Nat.reduceAdd, Nat.reduceSub, Nat.reduceMul, Nat.reduceLeDiff, Nat.reduceEqDiff, Nat.reduceLT, Int.reduceToNat, ↓reduceIte, reduceCtorEq, Int.reduceLE, Int.reduceLT, Int.reduceNeg, Int.reduceEq, Int.reduceBEq, Int.reduceBNe])
          all_goals first | rfl | exact ⟨rfl, rfl⟩ | trace_state)
      · repeat (first | (with_reducible first | refine Stp.up ?_ | refine fun (K : AS → Prop) hK => ?_ | refine awp_drawE (by decide +kernel) (by kernel_rfl) ?_ | refine awp_draw (by kernel_rfl) (by decide) ?_ | refine awp_boxes (by kernel_rfl) (by kernel_rfl) (by kernel_rfl) ?_ | refine adrawE_k (by decide) ?_ | refine adrawE_eff (by decide) ?_ | refine abox_plain (by decide) ?_ | refine abox_al ?_ | refine abox_st ?_ | refine adrawG_k (by decide) ?_ | refine adrawG_e (by decide) ?_) | (with_reducible refine hK _ ?_; clear hK; clear K) | simp only [go_sem, Nat.reduceAdd, Nat.reduceSub, Nat.reduceMul, Nat.reduceLeDiff, Nat.reduceEqDiff, Nat.reduceLT, Int.reduceToNat, ↓reduceIte, reduceCtorEq, Int.reduceLE, Int.reduceLT, Int.reduceNeg, Int.reduceEq, Int.reduceBEq, Int.reduceBNe, ha, o0, w1] | (with_reducible refine And.intro (by omega) ?_) | (clear hK; clear K))
        exact LNext.mk 1 (by omega) (by omega) (by
          (try simp only [ha]); (refine wk_mk ?_ ?_ ?_ <;> simp only [frm, List.foldl_cons, List.foldl_nil, List.replicate_succ, List.replicate_zero, WkT, WkO, AV.v.injEq, Value.int.injEq, Value.bool.injEq, Value.string.injEq, AV.vec.injEq, AV.ptr.injEq, true_or, or_true, false_or, or_false, AObj.mk.injEq, forall_eq_apply_imp_iff, forall_eq, forall_eq', go_sem, Nat.reduceAdd, Nat.reduceSub, Nat.reduceMul, Nat.reduceLeDiff, Nat.reduceEqDiff, Nat.reduceLT, Int.reduceToNat, ↓reduceIte, reduceCtorEq, Int.reduceLE, Int.reduceLT, Int.reduceNeg, Int.reduceEq, Int.reduceBEq, Int.reduceBNe])
          all_goals first | rfl | exact ⟨rfl, rfl⟩ | trace_state)
    · repeat (first | (with_reducible first | refine Stp.up ?_ | refine fun (K : AS → Prop) hK => ?_ | refine awp_drawE (by decide +kernel) (by kernel_rfl) ?_ | refine awp_draw (by kernel_rfl) (by decide) ?_ | refine awp_boxes (by kernel_rfl) (by kernel_rfl) (by kernel_rfl) ?_ | refine adrawE_k (by decide) ?_ | refine adrawE_eff (by decide) ?_ | refine abox_plain (by decide) ?_ | refine abox_al ?_ | refine abox_st ?_ | refine adrawG_k (by decide) ?_ | refine adrawG_e (by decide) ?_) | (with_reducible refine hK _ ?_; clear hK; clear K) | simp only [go_sem, Nat.reduceAdd, Nat.reduceSub, Nat.reduceMul, Nat.reduceLeDiff, Nat.reduceEqDiff, Nat.reduceLT, Int.reduceToNat, ↓reduceIte, reduceCtorEq, Int.reduceLE, Int.reduceLT, Int.reduceNeg, Int.reduceEq, Int.reduceBEq, Int.reduceBNe, hi0, c0, c1, c2, decide_true, decide_false] | (with_reducible refine And.intro (by omega) ?_) | (clear hK; clear K))
      refine ACallV.one C2 ?_
      rcases Bool.eq_false_or_eq_true (hasB names pp.frm) with ha | ha <;> rcases Bool.eq_false_or_eq_true (hasB names pp.to) with hb | hb
      all_goals
        repeat (first | (with_reducible first | refine Stp.up ?_ | refine fun (K : AS → Prop) hK => ?_ | refine awp_drawE (by decide +kernel) (by kernel_rfl) ?_ | refine awp_draw (by kernel_rfl) (by decide) ?_ | refine awp_boxes (by kernel_rfl) (by kernel_rfl) (by kernel_rfl) ?_ | refine adrawE_k (by decide) ?_ | refine adrawE_eff (by decide) ?_ | refine abox_plain (by decide) ?_ | refine abox_al ?_ | refine abox_st ?_ | refine adrawG_k (by decide) ?_ | refine adrawG_e (by decide) ?_) | (with_reducible refine hK _ ?_; clear hK; clear K) | simp only [go_sem, Nat.reduceAdd, Nat.reduceSub, Nat.reduceMul, Nat.reduceLeDiff, Nat.reduceEqDiff, Nat.reduceLT, Int.reduceToNat, ↓reduceIte, reduceCtorEq, Int.reduceLE, Int.reduceLT, Int.reduceNeg, Int.reduceEq, Int.reduceBEq, Int.reduceBNe, ha, hb, o0, o1, w1, w2] | (with_reducible refine And.intro (by omega) ?_) | (clear hK; clear K))
        exact LNext.mk 2 (by omega) (by omega) (by
          (try simp only [ha, hb]); (refine wk_mk ?_ ?_ ?_ <;> simp only [frm, List.foldl_cons, List.foldl_nil, List.replicate_succ, List.replicate_zero, WkT, WkO, AV.v.injEq, Value.int.injEq, Value.bool.injEq, Value.string.injEq, AV.vec.injEq, AV.ptr.injEq, true_or, or_true, false_or, or_false, AObj.mk.injEq, forall_eq_apply_imp_iff, forall_eq, forall_eq', go_sem, Nat.reduceAdd, Nat.reduceSub, Nat.reduceMul, Nat.reduceLeDiff, Nat.reduceEqDiff, Nat.reduceLT, Int.reduceToNat, ↓reduceIte, reduceCtorEq, Int.reduceLE, Int.reduceLT, Int.reduceNeg, Int.reduceEq, Int.reduceBEq, Int.reduceBNe])
          all_goals first | rfl | exact ⟨rfl, rfl⟩ | (simp only [ha, hb, o0, o1]; first | rfl | exact ⟨rfl, rfl⟩) | trace_state)
    · repeat (first | (with_reducible first | refine Stp.up ?_ | refine fun (K : AS → Prop) hK => ?_ | refine awp_drawE (by decide +kernel) (by kernel_rfl) ?_ | refine awp_draw (by kernel_rfl) (by decide) ?_ | refine awp_boxes (by kernel_rfl) (by kernel_rfl) (by kernel_rfl) ?_ | refine adrawE_k (by decide) ?_ | refine adrawE_eff (by decide) ?_ | refine abox_plain (by decide) ?_ | refine abox_al ?_ | refine abox_st ?_ | refine adrawG_k (by decide) ?_ | refine adrawG_e (by decide) ?_) | (with_reducible refine hK _ ?_; clear hK; clear K) | simp only [go_sem, Nat.reduceAdd, Nat.reduceSub, Nat.reduceMul, Nat.reduceLeDiff, Nat.reduceEqDiff, Nat.reduceLT, Int.reduceToNat, ↓reduceIte, reduceCtorEq, Int.reduceLE, Int.reduceLT, Int.reduceNeg, Int.reduceEq, Int.reduceBEq, Int.reduceBNe, hi0, c0, c1, c2, decide_true, decide_false] | (with_reducible refine And.intro (by omega) ?_) | (clear hK; clear K))
      rw [eN]
  · rw [decide_eq_false hin] at hU
    have eN : endsN ps names k = 0 := by rw [endsN, if_neg hin]
    repeat (first | (with_reducible first | refine Stp.up ?_ | refine fun (K : AS → Prop) hK => ?_ | refine awp_drawE (by decide +kernel) (by kernel_rfl) ?_ | refine awp_draw (by kernel_rfl) (by decide) ?_ | refine awp_boxes (by kernel_rfl) (by kernel_rfl) (by kernel_rfl) ?_ | refine adrawE_k (by decide) ?_ | refine adrawE_eff (by decide) ?_ | refine abox_plain (by decide) ?_ | refine abox_al ?_ | refine abox_st ?_ | refine adrawG_k (by decide) ?_ | refine adrawG_e (by decide) ?_) | (with_reducible refine hK _ ?_; clear hK; clear K) | simp only [go_sem, Nat.reduceAdd, Nat.reduceSub, Nat.reduceMul, Nat.reduceLeDiff, Nat.reduceEqDiff, Nat.reduceLT, Int.reduceToNat, ↓reduceIte, reduceCtorEq, Int.reduceLE, Int.reduceLT, Int.reduceNeg, Int.reduceEq, Int.reduceBEq, Int.reduceBNe, hU] | (with_reducible refine And.intro (by omega) ?_) | (clear hK; clear K))
    rw [eN]; rfl
set_option maxRecDepth 100000 in
set_option maxHeartbeats 4000000 in
theorem first1_c (q : Qry) (names : List ByteArray) (k : Nat) (hp : q.pats.length ≤ 1000000) (hk : k < q.pats.length) :
    Call1 Try.prog 45 [.v (.int .i64 k), .vp (encQ q), .vp [strsA names]] (.v (.int .i64 (rankN q.pats names k))) := by
  have C := Ends_c q names (k : Int) hp (by omega)
  have hE := endsN_le q.pats names (k : Int)
  obtain ⟨ps, cs, rs, ra, sl⟩ := q
  simp only [encQ, strsA] at *
  have eG := getD_map encP ps k [] hk
  have eP : pathAt ps k = ps[k].path := by rw [pathAt, List.getElem?_eq_getElem hk]
  have eR : rankN ps names k = 2 * (endsN ps names k : Int) + (if pathAt ps k then 0 else 1) := rfl
  generalize ps[k] = pp at eG eP
  simp only [encP] at eG
  have w1 : IntKind.i64.wrap (2 * (endsN ps names k : Int)) = 2 * (endsN ps names k : Int) := wrap_id (by omega) (by omega)
  have w2 : IntKind.i64.wrap (2 * (endsN ps names k : Int) + 1) = 2 * (endsN ps names k : Int) + 1 := wrap_id (by omega) (by omega)
  (refine Call1.enter Try.func45 rfl (by kernel_rfl) (by kernel_rfl) rfl (by first | rfl | (simp only [go_sem, Bool.and_self, Bool.and_true, Bool.true_and])) (by first | rfl | (simp only [go_sem, Bool.and_self, Bool.and_true, Bool.true_and])) ?_; simp only [Try.ntmps45, Try.results45, List.length_cons, List.length_nil, Nat.reduceAdd, Nat.reduceSub, List.replicate_succ, List.replicate_zero, List.cons_append, List.nil_append])
  repeat (first | (with_reducible first | refine Stp.up ?_ | refine fun (K : AS → Prop) hK => ?_ | refine awp_drawE (by decide +kernel) (by kernel_rfl) ?_ | refine awp_draw (by kernel_rfl) (by decide) ?_ | refine awp_boxes (by kernel_rfl) (by kernel_rfl) (by kernel_rfl) ?_ | refine adrawE_k (by decide) ?_ | refine adrawE_eff (by decide) ?_ | refine abox_plain (by decide) ?_ | refine abox_al ?_ | refine abox_st ?_ | refine adrawG_k (by decide) ?_ | refine adrawG_e (by decide) ?_) | (with_reducible refine hK _ ?_; clear hK; clear K) | simp only [go_sem, Nat.reduceAdd, Nat.reduceSub, Nat.reduceMul, Nat.reduceLeDiff, Nat.reduceEqDiff, Nat.reduceLT, Int.reduceToNat, ↓reduceIte, reduceCtorEq, Int.reduceLE, Int.reduceLT, Int.reduceNeg, Int.reduceEq, Int.reduceBEq, Int.reduceBNe] | (with_reducible refine And.intro (by omega) ?_) | (clear hK; clear K))
  refine ACallV.one C ?_
  repeat (first | (with_reducible first | refine Stp.up ?_ | refine fun (K : AS → Prop) hK => ?_ | refine awp_drawE (by decide +kernel) (by kernel_rfl) ?_ | refine awp_draw (by kernel_rfl) (by decide) ?_ | refine awp_boxes (by kernel_rfl) (by kernel_rfl) (by kernel_rfl) ?_ | refine adrawE_k (by decide) ?_ | refine adrawE_eff (by decide) ?_ | refine abox_plain (by decide) ?_ | refine abox_al ?_ | refine abox_st ?_ | refine adrawG_k (by decide) ?_ | refine adrawG_e (by decide) ?_) | (with_reducible refine hK _ ?_; clear hK; clear K) | simp only [go_sem, Nat.reduceAdd, Nat.reduceSub, Nat.reduceMul, Nat.reduceLeDiff, Nat.reduceEqDiff, Nat.reduceLT, Int.reduceToNat, ↓reduceIte, reduceCtorEq, Int.reduceLE, Int.reduceLT, Int.reduceNeg, Int.reduceEq, Int.reduceBEq, Int.reduceBNe, w1, eG] | (with_reducible refine And.intro (by omega) ?_) | (clear hK; clear K))
  rcases Bool.eq_false_or_eq_true pp.path with h | h
  · repeat (first | (with_reducible first | refine Stp.up ?_ | refine fun (K : AS → Prop) hK => ?_ | refine awp_drawE (by decide +kernel) (by kernel_rfl) ?_ | refine awp_draw (by kernel_rfl) (by decide) ?_ | refine awp_boxes (by kernel_rfl) (by kernel_rfl) (by kernel_rfl) ?_ | refine adrawE_k (by decide) ?_ | refine adrawE_eff (by decide) ?_ | refine abox_plain (by decide) ?_ | refine abox_al ?_ | refine abox_st ?_ | refine adrawG_k (by decide) ?_ | refine adrawG_e (by decide) ?_) | (with_reducible refine hK _ ?_; clear hK; clear K) | simp only [go_sem, Nat.reduceAdd, Nat.reduceSub, Nat.reduceMul, Nat.reduceLeDiff, Nat.reduceEqDiff, Nat.reduceLT, Int.reduceToNat, ↓reduceIte, reduceCtorEq, Int.reduceLE, Int.reduceLT, Int.reduceNeg, Int.reduceEq, Int.reduceBEq, Int.reduceBNe, h] | (with_reducible refine And.intro (by omega) ?_) | (clear hK; clear K))
    rw [eR, eP, h, if_pos rfl, Int.add_zero]
  · repeat (first | (with_reducible first | refine Stp.up ?_ | refine fun (K : AS → Prop) hK => ?_ | refine awp_drawE (by decide +kernel) (by kernel_rfl) ?_ | refine awp_draw (by kernel_rfl) (by decide) ?_ | refine awp_boxes (by kernel_rfl) (by kernel_rfl) (by kernel_rfl) ?_ | refine adrawE_k (by decide) ?_ | refine adrawE_eff (by decide) ?_ | refine abox_plain (by decide) ?_ | refine abox_al ?_ | refine abox_st ?_ | refine adrawG_k (by decide) ?_ | refine adrawG_e (by decide) ?_) | (with_reducible refine hK _ ?_; clear hK; clear K) | simp only [go_sem, Nat.reduceAdd, Nat.reduceSub, Nat.reduceMul, Nat.reduceLeDiff, Nat.reduceEqDiff, Nat.reduceLT, Int.reduceToNat, ↓reduceIte, reduceCtorEq, Int.reduceLE, Int.reduceLT, Int.reduceNeg, Int.reduceEq, Int.reduceBEq, Int.reduceBNe, h, w2] | (with_reducible refine And.intro (by omega) ?_) | (clear hK; clear K))
    rw [eR, eP, h, if_neg (by decide)]
theorem rankN_le (ps : List Pat) (names : List ByteArray) (k : Nat) : 0 ≤ rankN ps names k ∧ rankN ps names k ≤ 5 := by
  have := endsN_le ps names (k : Int)
  unfold rankN
  split <;> omega
set_option maxRecDepth 100000 in
set_option maxHeartbeats 4000000 in
theorem first2_c (q : Qry) (names : List ByteArray) (a b : Nat) (hp : q.pats.length ≤ 1000000) (ha : a < q.pats.length) (hb : b < q.pats.length) :
    Call1 Try.prog 47 [.v (.int .i64 a), .v (.int .i64 b), .vp [.fn 45 [] [.vp (encQ q), .vp [strsA names]]]] (.v (.int .i64 (rankN q.pats names a - rankN q.pats names b))) := by
  have C1 := first1_c q names a hp ha
  have C2 := first1_c q names b hp hb
  have r1 := rankN_le q.pats names a
  have r2 := rankN_le q.pats names b
  obtain ⟨ps, cs, rs, ra, sl⟩ := q
  simp only [encQ, strsA] at *
  have w1 : IntKind.i64.wrap (rankN ps names a - rankN ps names b) = rankN ps names a - rankN ps names b := wrap_id (by omega) (by omega)
  (refine Call1.enter Try.func47 rfl (by kernel_rfl) (by kernel_rfl) rfl (by first | rfl | (simp only [go_sem, Bool.and_self, Bool.and_true, Bool.true_and])) (by first | rfl | (simp only [go_sem, Bool.and_self, Bool.and_true, Bool.true_and])) ?_; simp only [Try.ntmps47, Try.results47, List.length_cons, List.length_nil, Nat.reduceAdd, Nat.reduceSub, List.replicate_succ, List.replicate_zero, List.cons_append, List.nil_append])
  repeat (first | (with_reducible first | refine Stp.up ?_ | refine fun (K : AS → Prop) hK => ?_ | refine awp_drawE (by decide +kernel) (by kernel_rfl) ?_ | refine awp_draw (by kernel_rfl) (by decide) ?_ | refine awp_boxes (by kernel_rfl) (by kernel_rfl) (by kernel_rfl) ?_ | refine adrawE_k (by decide) ?_ | refine adrawE_eff (by decide) ?_ | refine abox_plain (by decide) ?_ | refine abox_al ?_ | refine abox_st ?_ | refine adrawG_k (by decide) ?_ | refine adrawG_e (by decide) ?_) | (with_reducible refine hK _ ?_; clear hK; clear K) | simp only [go_sem, Nat.reduceAdd, Nat.reduceSub, Nat.reduceMul, Nat.reduceLeDiff, Nat.reduceEqDiff, Nat.reduceLT, Int.reduceToNat, ↓reduceIte, reduceCtorEq, Int.reduceLE, Int.reduceLT, Int.reduceNeg, Int.reduceEq, Int.reduceBEq, Int.reduceBNe] | (with_reducible refine And.intro (by omega) ?_) | (clear hK; clear K))
  refine ACallS.one C1 ?_
  repeat (first | (with_reducible first | refine Stp.up ?_ | refine fun (K : AS → Prop) hK => ?_ | refine awp_drawE (by decide +kernel) (by kernel_rfl) ?_ | refine awp_draw (by kernel_rfl) (by decide) ?_ | refine awp_boxes (by kernel_rfl) (by kernel_rfl) (by kernel_rfl) ?_ | refine adrawE_k (by decide) ?_ | refine adrawE_eff (by decide) ?_ | refine abox_plain (by decide) ?_ | refine abox_al ?_ | refine abox_st ?_ | refine adrawG_k (by decide) ?_ | refine adrawG_e (by decide) ?_) | (with_reducible refine hK _ ?_; clear hK; clear K) | simp only [go_sem, Nat.reduceAdd, Nat.reduceSub, Nat.reduceMul, Nat.reduceLeDiff, Nat.reduceEqDiff, Nat.reduceLT, Int.reduceToNat, ↓reduceIte, reduceCtorEq, Int.reduceLE, Int.reduceLT, Int.reduceNeg, Int.reduceEq, Int.reduceBEq, Int.reduceBNe] | (with_reducible refine And.intro (by omega) ?_) | (clear hK; clear K))
  refine ACallS.one C2 ?_
  repeat (first | (with_reducible first | refine Stp.up ?_ | refine fun (K : AS → Prop) hK => ?_ | refine awp_drawE (by decide +kernel) (by kernel_rfl) ?_ | refine awp_draw (by kernel_rfl) (by decide) ?_ | refine awp_boxes (by kernel_rfl) (by kernel_rfl) (by kernel_rfl) ?_ | refine adrawE_k (by decide) ?_ | refine adrawE_eff (by decide) ?_ | refine abox_plain (by decide) ?_ | refine abox_al ?_ | refine abox_st ?_ | refine adrawG_k (by decide) ?_ | refine adrawG_e (by decide) ?_) | (with_reducible refine hK _ ?_; clear hK; clear K) | simp only [go_sem, Nat.reduceAdd, Nat.reduceSub, Nat.reduceMul, Nat.reduceLeDiff, Nat.reduceEqDiff, Nat.reduceLT, Int.reduceToNat, ↓reduceIte, reduceCtorEq, Int.reduceLE, Int.reduceLT, Int.reduceNeg, Int.reduceEq, Int.reduceBEq, Int.reduceBNe, w1] | (with_reducible refine And.intro (by omega) ?_) | (clear hK; clear K))
theorem wf_encN (b : Nat) (l : List Nat) : wfR b (encN l) = true := wfR_map _ (fun _ => rfl) _
theorem maxF_snoc (r : Nat → Int) : ∀ (l : List Nat) (m k : Nat), maxF r (l ++ [k]) m = if r k - r (maxF r l m) > 0 then k else maxF r l m
  | [], m, k => rfl
  | a :: l, m, k => by rw [List.cons_append, maxF, maxF_snoc r l, maxF]
set_option maxRecDepth 100000 in
set_option maxHeartbeats 4000000 in
theorem maxFunc_c {gf : FuncId} {caps : List AV} (r : Nat → Int) (l : List Nat) (hl : l.length ≤ 1000000) (hne : l ≠ []) (hc : ∀ a b, a ∈ l → b ∈ l → Call1 Try.prog gf (.v (.int .i64 a) :: .v (.int .i64 b) :: caps) (.v (.int .i64 (r a - r b)))) (hw : wfL 0 caps = true) :
    Call1 Try.prog 46 [.slc 1 (encN l) l.length, .fn gf [] caps] (.v (.int .i64 (maxF r (l.drop 1) (l.getD 0 0) : Nat))) := by
  (refine Call1.enter Try.func46 rfl (by kernel_rfl) (by kernel_rfl) rfl (by simp only [go_sem, wfL, AV.wf, Bool.and_self, Bool.and_true, Bool.true_and, hw, wf_encN]) (by simp only [go_sem, wfL, AV.wf, wf_encS, Bool.and_self, Bool.and_true, Bool.true_and, hw, wf_encN]) ?_; simp only [Try.ntmps46, Try.results46, List.length_cons, List.length_nil, Nat.reduceAdd, Nat.reduceSub, List.replicate_succ, List.replicate_zero, List.cons_append, List.nil_append])
  have hpos : 0 < l.length := by cases l <;> simp_all
  have d0 : decide ((l.length : Int) < 1) = false := decide_eq_false (by omega)
  have eG0 : (encN l).getD 0 [] = [.v (.int .i64 (l[0] : Nat))] := by rw [encN, getD_map _ l 0 [] hpos]
  have e0 : l.getD 0 0 = l[0] := by simp [List.getD, hpos]
  have hmem : ∀ j, maxF r ((l.drop 1).take j) l[0] ∈ l := fun j => by
    rcases (maxF_spec r ((l.drop 1).take j) l[0]).1 with e | e
    · rw [e]; exact List.getElem_mem hpos
    · exact List.mem_of_mem_drop (List.mem_of_mem_take e)
  rw [e0]
  repeat (first | (with_reducible first | refine Stp.up ?_ | refine fun (K : AS → Prop) hK => ?_ | refine awp_drawE (by decide +kernel) (by kernel_rfl) ?_ | refine awp_draw (by kernel_rfl) (by decide) ?_ | refine awp_boxes (by kernel_rfl) (by kernel_rfl) (by kernel_rfl) ?_ | refine adrawE_k (by decide) ?_ | refine adrawE_eff (by decide) ?_ | refine abox_plain (by decide) ?_ | refine abox_al ?_ | refine abox_st ?_ | refine adrawG_k (by decide) ?_ | refine adrawG_e (by decide) ?_) | (with_reducible refine hK _ ?_; clear hK; clear K) | simp only [go_sem, Nat.reduceAdd, Nat.reduceSub, Nat.reduceMul, Nat.reduceLeDiff, Nat.reduceEqDiff, Nat.reduceLT, Int.reduceToNat, ↓reduceIte, reduceCtorEq, Int.reduceLE, Int.reduceLT, Int.reduceNeg, Int.reduceEq, Int.reduceBEq, Int.reduceBNe, d0, eG0] | (with_reducible refine And.intro (by omega) ?_) | (clear hK; clear K))
  refine awp_loopK (ι := Nat) 14 (fun j => [(5, .v (.int .i64 (maxF r ((l.drop 1).take j) l[0] : Nat))), (6, .v (.int .i64 ((j + 1 : Nat) : Int)))]) (fun j => l.length - (j + 1)) (fun j => j + 1 ≤ l.length) 0 (by omega) ?_ ?_
  · (refine wk_mk ?_ ?_ ?_ <;> simp only [frm, List.foldl_cons, List.foldl_nil, List.replicate_succ, List.replicate_zero, WkT, WkO, AV.v.injEq, Value.int.injEq, Value.bool.injEq, Value.string.injEq, AV.vec.injEq, AV.ptr.injEq, true_or, or_true, false_or, or_false, AObj.mk.injEq, forall_eq_apply_imp_iff, forall_eq, forall_eq', go_sem, Nat.reduceAdd, Nat.reduceSub, Nat.reduceMul, Nat.reduceLeDiff, Nat.reduceEqDiff, Nat.reduceLT, Int.reduceToNat, ↓reduceIte, reduceCtorEq, Int.reduceLE, Int.reduceLT, Int.reduceNeg, Int.reduceEq, Int.reduceBEq, Int.reduceBNe])
    exact ⟨wf_encN _ _, hw, rfl, rfl, wf_encN _ _⟩
  rintro j hj K hK
  repeat (first | (with_reducible first | refine Stp.up ?_ | refine fun (K : AS → Prop) hK => ?_ | refine awp_drawE (by decide +kernel) (by kernel_rfl) ?_ | refine awp_draw (by kernel_rfl) (by decide) ?_ | refine awp_boxes (by kernel_rfl) (by kernel_rfl) (by kernel_rfl) ?_ | refine adrawE_k (by decide) ?_ | refine adrawE_eff (by decide) ?_ | refine abox_plain (by decide) ?_ | refine abox_al ?_ | refine abox_st ?_ | refine adrawG_k (by decide) ?_ | refine adrawG_e (by decide) ?_) | (with_reducible refine hK _ ?_; clear hK; clear K) | simp only [go_sem, Nat.reduceAdd, Nat.reduceSub, Nat.reduceMul, Nat.reduceLeDiff, Nat.reduceEqDiff, Nat.reduceLT, Int.reduceToNat, ↓reduceIte, reduceCtorEq, Int.reduceLE, Int.reduceLT, Int.reduceNeg, Int.reduceEq, Int.reduceBEq, Int.reduceBNe] | (with_reducible refine And.intro (by omega) ?_) | (clear hK; clear K))
  refine AIf.part (fun h => ?_) (fun h => ?_)
  · have hlt : j + 1 < l.length := by (try simp only [bne_iff_ne, ne_eq, bne_eq_false_iff_eq, beq_iff_eq, beq_eq_false_iff_ne, decide_eq_true_eq, decide_eq_false_iff_not, Bool.not_eq_true', Bool.not_eq_false', Bool.not_eq_eq_eq_not, Bool.not_true, Bool.not_false, Int.natCast_inj, Int.ofNat_lt, Int.ofNat_le] at h); omega
    have eW := wrap_succ (k := j + 1) (by omega)
    have eG : (encN l).getD (j + 1) [] = [.v (.int .i64 (l[j + 1] : Nat))] := by rw [encN, getD_map _ l (j + 1) [] hlt]
    have C := hc l[j + 1] (maxF r ((l.drop 1).take j) l[0]) (List.getElem_mem hlt) (hmem j)
    have eS : maxF r ((l.drop 1).take (j + 1)) l[0] = if r l[j + 1] - r (maxF r ((l.drop 1).take j) l[0]) > 0 then l[j + 1] else maxF r ((l.drop 1).take j) l[0] := by
      rw [List.take_succ_eq_append_getElem (by simp; omega), maxF_snoc]
      simp [Nat.add_comm]
    generalize maxF r ((l.drop 1).take j) l[0] = m at C eS
    repeat (first | (with_reducible first | refine Stp.up ?_ | refine fun (K : AS → Prop) hK => ?_ | refine awp_drawE (by decide +kernel) (by kernel_rfl) ?_ | refine awp_draw (by kernel_rfl) (by decide) ?_ | refine awp_boxes (by kernel_rfl) (by kernel_rfl) (by kernel_rfl) ?_ | refine adrawE_k (by decide) ?_ | refine adrawE_eff (by decide) ?_ | refine abox_plain (by decide) ?_ | refine abox_al ?_ | refine abox_st ?_ | refine adrawG_k (by decide) ?_ | refine adrawG_e (by decide) ?_) | (with_reducible refine hK _ ?_; clear hK; clear K) | simp only [go_sem, Nat.reduceAdd, Nat.reduceSub, Nat.reduceMul, Nat.reduceLeDiff, Nat.reduceEqDiff, Nat.reduceLT, Int.reduceToNat, ↓reduceIte, reduceCtorEq, Int.reduceLE, Int.reduceLT, Int.reduceNeg, Int.reduceEq, Int.reduceBEq, Int.reduceBNe, h, eG] | (with_reducible refine And.intro (by omega) ?_) | (clear hK; clear K))
    refine ACallV.one C ?_
    by_cases hg : r l[j + 1] - r m > 0
    · rw [if_pos hg] at eS
      have hg' : decide (0 < r l[j + 1] - r m) = true := decide_eq_true hg
      repeat (first | (with_reducible first | refine Stp.up ?_ | refine fun (K : AS → Prop) hK => ?_ | refine awp_drawE (by decide +kernel) (by kernel_rfl) ?_ | refine awp_draw (by kernel_rfl) (by decide) ?_ | refine awp_boxes (by kernel_rfl) (by kernel_rfl) (by kernel_rfl) ?_ | refine adrawE_k (by decide) ?_ | refine adrawE_eff (by decide) ?_ | refine abox_plain (by decide) ?_ | refine abox_al ?_ | refine abox_st ?_ | refine adrawG_k (by decide) ?_ | refine adrawG_e (by decide) ?_) | (with_reducible refine hK _ ?_; clear hK; clear K) | simp only [go_sem, Nat.reduceAdd, Nat.reduceSub, Nat.reduceMul, Nat.reduceLeDiff, Nat.reduceEqDiff, Nat.reduceLT, Int.reduceToNat, ↓reduceIte, reduceCtorEq, Int.reduceLE, Int.reduceLT, Int.reduceNeg, Int.reduceEq, Int.reduceBEq, Int.reduceBNe, hg', eG, eW] | (with_reducible refine And.intro (by omega) ?_) | (clear hK; clear K))
      exact LNext.mk (j + 1) (by omega) (by omega) (by
        simp only [eS]
        (refine wk_mk ?_ ?_ ?_ <;> simp only [frm, List.foldl_cons, List.foldl_nil, List.replicate_succ, List.replicate_zero, WkT, WkO, AV.v.injEq, Value.int.injEq, Value.bool.injEq, Value.string.injEq, AV.vec.injEq, AV.ptr.injEq, true_or, or_true, false_or, or_false, AObj.mk.injEq, forall_eq_apply_imp_iff, forall_eq, forall_eq', go_sem, Nat.reduceAdd, Nat.reduceSub, Nat.reduceMul, Nat.reduceLeDiff, Nat.reduceEqDiff, Nat.reduceLT, Int.reduceToNat, ↓reduceIte, reduceCtorEq, Int.reduceLE, Int.reduceLT, Int.reduceNeg, Int.reduceEq, Int.reduceBEq, Int.reduceBNe])
        exact ⟨wf_encN _ _, hw, wf_encN _ _⟩)
    · rw [if_neg hg] at eS
      have hg' : decide (0 < r l[j + 1] - r m) = false := decide_eq_false (by omega)
      repeat (first | (with_reducible first | refine Stp.up ?_ | refine fun (K : AS → Prop) hK => ?_ | refine awp_drawE (by decide +kernel) (by kernel_rfl) ?_ | refine awp_draw (by kernel_rfl) (by decide) ?_ | refine awp_boxes (by kernel_rfl) (by kernel_rfl) (by kernel_rfl) ?_ | refine adrawE_k (by decide) ?_ | refine adrawE_eff (by decide) ?_ | refine abox_plain (by decide) ?_ | refine abox_al ?_ | refine abox_st ?_ | refine adrawG_k (by decide) ?_ | refine adrawG_e (by decide) ?_) | (with_reducible refine hK _ ?_; clear hK; clear K) | simp only [go_sem, Nat.reduceAdd, Nat.reduceSub, Nat.reduceMul, Nat.reduceLeDiff, Nat.reduceEqDiff, Nat.reduceLT, Int.reduceToNat, ↓reduceIte, reduceCtorEq, Int.reduceLE, Int.reduceLT, Int.reduceNeg, Int.reduceEq, Int.reduceBEq, Int.reduceBNe, hg', eW] | (with_reducible refine And.intro (by omega) ?_) | (clear hK; clear K))
      exact LNext.mk (j + 1) (by omega) (by omega) (by
        simp only [eS]
        (refine wk_mk ?_ ?_ ?_ <;> simp only [frm, List.foldl_cons, List.foldl_nil, List.replicate_succ, List.replicate_zero, WkT, WkO, AV.v.injEq, Value.int.injEq, Value.bool.injEq, Value.string.injEq, AV.vec.injEq, AV.ptr.injEq, true_or, or_true, false_or, or_false, AObj.mk.injEq, forall_eq_apply_imp_iff, forall_eq, forall_eq', go_sem, Nat.reduceAdd, Nat.reduceSub, Nat.reduceMul, Nat.reduceLeDiff, Nat.reduceEqDiff, Nat.reduceLT, Int.reduceToNat, ↓reduceIte, reduceCtorEq, Int.reduceLE, Int.reduceLT, Int.reduceNeg, Int.reduceEq, Int.reduceBEq, Int.reduceBNe])
        exact ⟨wf_encN _ _, hw, wf_encN _ _⟩)
  · have hje : j + 1 = l.length := by (try simp only [bne_iff_ne, ne_eq, bne_eq_false_iff_eq, beq_iff_eq, beq_eq_false_iff_ne, decide_eq_true_eq, decide_eq_false_iff_not, Bool.not_eq_true', Bool.not_eq_false', Bool.not_eq_eq_eq_not, Bool.not_true, Bool.not_false, Int.natCast_inj, Int.ofNat_lt, Int.ofNat_le] at h); omega
    have e1 : (l.drop 1).take j = l.drop 1 := List.take_of_length_le (by simp; omega)
    repeat (first | (with_reducible first | refine Stp.up ?_ | refine fun (K : AS → Prop) hK => ?_ | refine awp_drawE (by decide +kernel) (by kernel_rfl) ?_ | refine awp_draw (by kernel_rfl) (by decide) ?_ | refine awp_boxes (by kernel_rfl) (by kernel_rfl) (by kernel_rfl) ?_ | refine adrawE_k (by decide) ?_ | refine adrawE_eff (by decide) ?_ | refine abox_plain (by decide) ?_ | refine abox_al ?_ | refine abox_st ?_ | refine adrawG_k (by decide) ?_ | refine adrawG_e (by decide) ?_) | (with_reducible refine hK _ ?_; clear hK; clear K) | simp only [go_sem, Nat.reduceAdd, Nat.reduceSub, Nat.reduceMul, Nat.reduceLeDiff, Nat.reduceEqDiff, Nat.reduceLT, Int.reduceToNat, ↓reduceIte, reduceCtorEq, Int.reduceLE, Int.reduceLT, Int.reduceNeg, Int.reduceEq, Int.reduceBEq, Int.reduceBNe, e1] | (with_reducible refine And.intro (by omega) ?_) | (clear hK; clear K))
set_option maxRecDepth 100000 in
set_option maxHeartbeats 4000000 in
theorem first_c (q : Qry) (names : List ByteArray) (l : List Nat) (hp : q.pats.length ≤ 1000000) (hl : l.length ≤ 1000000) (hne : l ≠ []) (hk : ∀ k, k ∈ l → k < q.pats.length) :
    Call1 Try.prog 25 [.agg (encQ q), strsA names, .slc 1 (encN l) l.length] (.v (.int .i64 (maxF (rankN q.pats names) (l.drop 1) (l.getD 0 0) : Nat))) := by
  have C := maxFunc_c (gf := 47) (caps := [.vp [.fn 45 [] [.vp (encQ q), .vp [strsA names]]]]) (rankN q.pats names) l hl hne (fun a b ha hb => first2_c q names a b hp (hk a ha) (hk b hb)) (by obtain ⟨ps, cs, rs, ra, sl⟩ := q; simp only [encQ, strsA, go_sem, wfL, AV.wf, wf_encS, Bool.and_self, Bool.and_true, Bool.true_and])
  obtain ⟨ps, cs, rs, ra, sl⟩ := q
  simp only [encQ, strsA] at *
  (refine Call1.enter Try.func25 rfl (by kernel_rfl) (by kernel_rfl) rfl (by simp only [go_sem, wfL, AV.wf, Bool.and_self, Bool.and_true, Bool.true_and, wf_encN]) (by simp only [go_sem, wfL, AV.wf, wf_encS, Bool.and_self, Bool.and_true, Bool.true_and, wf_encN]) ?_; simp only [Try.ntmps25, Try.results25, List.length_cons, List.length_nil, Nat.reduceAdd, Nat.reduceSub, List.replicate_succ, List.replicate_zero, List.cons_append, List.nil_append])
  repeat (first | (with_reducible first | refine Stp.up ?_ | refine fun (K : AS → Prop) hK => ?_ | refine awp_drawE (by decide +kernel) (by kernel_rfl) ?_ | refine awp_draw (by kernel_rfl) (by decide) ?_ | refine awp_boxes (by kernel_rfl) (by kernel_rfl) (by kernel_rfl) ?_ | refine adrawE_k (by decide) ?_ | refine adrawE_eff (by decide) ?_ | refine abox_plain (by decide) ?_ | refine abox_al ?_ | refine abox_st ?_ | refine adrawG_k (by decide) ?_ | refine adrawG_e (by decide) ?_) | (with_reducible refine hK _ ?_; clear hK; clear K) | simp only [go_sem, Nat.reduceAdd, Nat.reduceSub, Nat.reduceMul, Nat.reduceLeDiff, Nat.reduceEqDiff, Nat.reduceLT, Int.reduceToNat, ↓reduceIte, reduceCtorEq, Int.reduceLE, Int.reduceLT, Int.reduceNeg, Int.reduceEq, Int.reduceBEq, Int.reduceBNe] | (with_reducible refine And.intro (by omega) ?_) | (clear hK; clear K))
  refine ACallV.frz C 60 rfl (by simp only [go_sem, Nat.reduceLT, Nat.reduceLeDiff, Nat.reduceEqDiff, Nat.lt_add_one, Nat.zero_lt_one, and_self, wf_encN]) rfl ?_
  repeat (first | (with_reducible first | refine Stp.up ?_ | refine fun (K : AS → Prop) hK => ?_ | refine awp_drawE (by decide +kernel) (by kernel_rfl) ?_ | refine awp_draw (by kernel_rfl) (by decide) ?_ | refine awp_boxes (by kernel_rfl) (by kernel_rfl) (by kernel_rfl) ?_ | refine adrawE_k (by decide) ?_ | refine adrawE_eff (by decide) ?_ | refine abox_plain (by decide) ?_ | refine abox_al ?_ | refine abox_st ?_ | refine adrawG_k (by decide) ?_ | refine adrawG_e (by decide) ?_) | (with_reducible refine hK _ ?_; clear hK; clear K) | simp only [go_sem, Nat.reduceAdd, Nat.reduceSub, Nat.reduceMul, Nat.reduceLeDiff, Nat.reduceEqDiff, Nat.reduceLT, Int.reduceToNat, ↓reduceIte, reduceCtorEq, Int.reduceLE, Int.reduceLT, Int.reduceNeg, Int.reduceEq, Int.reduceBEq, Int.reduceBNe] | (with_reducible refine And.intro (by omega) ?_) | (clear hK; clear K))
set_option maxRecDepth 100000 in
set_option maxHeartbeats 4000000 in
theorem valuesN_seq (xs : List Nat) (hl : xs.length ≤ 1000000) : SeqA Try.prog 37 [.vp [.slc 1 (encN xs) xs.length]] [] (encN xs) := by
  have e0 : encN xs = encN (xs.drop 0) := by rw [List.drop_zero]
  have L : (encN xs).length = xs.length := by simp [encN]
  rw [show SeqA Try.prog 37 [.vp [.slc 1 (encN xs) xs.length]] [] (encN xs) ↔ SeqA Try.prog 37 [.vp [.slc 1 (encN xs) xs.length]] [] (encN (xs.drop 0)) from by rw [List.drop_zero]]
  (refine SeqA.enter Try.func37 rfl (by kernel_rfl) (by kernel_rfl) rfl (fun l => ?_); simp only [Try.ntmps37, Try.results37, List.length_cons, List.length_nil, Nat.reduceAdd, Nat.reduceSub, List.replicate_succ, List.replicate_zero, List.cons_append, List.nil_append])
  repeat (first | (with_reducible first | refine Stp.up ?_ | refine fun (K : AS → Prop) hK => ?_ | refine awp_drawE (by decide +kernel) (by kernel_rfl) ?_ | refine awp_draw (by kernel_rfl) (by decide) ?_ | refine awp_boxes (by kernel_rfl) (by kernel_rfl) (by kernel_rfl) ?_ | refine adrawE_k (by decide) ?_ | refine adrawE_eff (by decide) ?_ | refine abox_plain (by decide) ?_ | refine abox_al ?_ | refine abox_st ?_ | refine adrawG_k (by decide) ?_ | refine adrawG_e (by decide) ?_) | (with_reducible refine hK _ ?_; clear hK; clear K) | simp only [go_sem, Nat.reduceAdd, Nat.reduceSub, Nat.reduceMul, Nat.reduceLeDiff, Nat.reduceEqDiff, Nat.reduceLT, Int.reduceToNat, ↓reduceIte, reduceCtorEq, Int.reduceLE, Int.reduceLT, Int.reduceNeg, Int.reduceEq, Int.reduceBEq, Int.reduceBNe] | (with_reducible refine And.intro (by omega) ?_) | (clear hK; clear K))
  refine awp_loopY (ι := Nat) 8 (fun i => [(7, .v (.int .i64 i)), (4, .undef)]) (fun i => []) (fun i => .run l (encN (xs.drop i))) (fun i => xs.length - i) (fun i => i ≤ xs.length) 0 (by omega) ?_ ?_
  · (refine wk_mk ?_ ?_ ?_ <;> simp only [frm, List.foldl_cons, List.foldl_nil, List.replicate_succ, List.replicate_zero, WkT, WkO, AV.v.injEq, Value.int.injEq, Value.bool.injEq, Value.string.injEq, AV.vec.injEq, AV.ptr.injEq, true_or, or_true, false_or, or_false, AObj.mk.injEq, forall_eq_apply_imp_iff, forall_eq, forall_eq', go_sem, Nat.reduceAdd, Nat.reduceSub, Nat.reduceMul, Nat.reduceLeDiff, Nat.reduceEqDiff, Nat.reduceLT, Int.reduceToNat, ↓reduceIte, reduceCtorEq, Int.reduceLE, Int.reduceLT, Int.reduceNeg, Int.reduceEq, Int.reduceBEq, Int.reduceBNe])
    exact ⟨wf_encN _ _, wf_encN _ _, rfl⟩
  · rintro i hi K hK
    repeat (first | (with_reducible first | refine Stp.up ?_ | refine fun (K : AS → Prop) hK => ?_ | refine awp_drawE (by decide +kernel) (by kernel_rfl) ?_ | refine awp_draw (by kernel_rfl) (by decide) ?_ | refine awp_boxes (by kernel_rfl) (by kernel_rfl) (by kernel_rfl) ?_ | refine adrawE_k (by decide) ?_ | refine adrawE_eff (by decide) ?_ | refine abox_plain (by decide) ?_ | refine abox_al ?_ | refine abox_st ?_ | refine adrawG_k (by decide) ?_ | refine adrawG_e (by decide) ?_) | (with_reducible refine hK _ ?_; clear hK; clear K) | simp only [go_sem, Nat.reduceAdd, Nat.reduceSub, Nat.reduceMul, Nat.reduceLeDiff, Nat.reduceEqDiff, Nat.reduceLT, Int.reduceToNat, ↓reduceIte, reduceCtorEq, Int.reduceLE, Int.reduceLT, Int.reduceNeg, Int.reduceEq, Int.reduceBEq, Int.reduceBNe] | (with_reducible refine And.intro (by omega) ?_) | (clear hK; clear K))
    refine AIf.part (fun h => ?_) (fun h => ?_)
    · have hlt : i < xs.length := by (try simp only [bne_iff_ne, ne_eq, bne_eq_false_iff_eq, beq_iff_eq, beq_eq_false_iff_ne, decide_eq_true_eq, decide_eq_false_iff_not, Bool.not_eq_true', Bool.not_eq_false', Bool.not_eq_eq_eq_not, Bool.not_true, Bool.not_false, Int.natCast_inj, Int.ofNat_lt, Int.ofNat_le] at h); omega
      have eW := wrap_succ (k := i) (by omega)
      have eG : (encN xs).getD i [] = [.v (.int .i64 (xs[i] : Nat))] := by rw [encN, getD_map _ xs i [] hlt]
      have eY : encN (xs.drop i) = [.v (.int .i64 (xs[i] : Nat))] :: encN (xs.drop (i + 1)) := by rw [encN, List.drop_eq_getElem_cons hlt]; rfl
      repeat' (first | (with_reducible first | refine Stp.up ?_ | refine fun (K : AS → Prop) hK => ?_ | refine awp_drawE (by decide +kernel) (by kernel_rfl) ?_ | refine awp_draw (by kernel_rfl) (by decide) ?_ | refine awp_boxes (by kernel_rfl) (by kernel_rfl) (by kernel_rfl) ?_ | refine adrawE_k (by decide) ?_ | refine adrawE_eff (by decide) ?_ | refine abox_plain (by decide) ?_ | refine abox_al ?_ | refine abox_st ?_ | refine adrawG_k (by decide) ?_ | refine adrawG_e (by decide) ?_) | (with_reducible refine hK _ ?_; clear hK; clear K) | simp only [go_sem, Nat.reduceAdd, Nat.reduceSub, Nat.reduceMul, Nat.reduceLeDiff, Nat.reduceEqDiff, Nat.reduceLT, Int.reduceToNat, ↓reduceIte, reduceCtorEq, Int.reduceLE, Int.reduceLT, Int.reduceNeg, Int.reduceEq, Int.reduceBEq, Int.reduceBNe, eG, eW, eY, Go.undef] | (with_reducible refine And.intro (by omega) ?_) | (clear hK; clear K) | (with_reducible refine ACallV.one (by assumption) ?_) | (with_reducible refine ACallS.one (by assumption) ?_) | (refine AIf.part (fun hb => ?_) (fun hb => ?_) <;> simp only [hb, go_sem, Nat.reduceAdd, Nat.reduceSub, Nat.reduceMul, Nat.reduceLeDiff, Nat.reduceEqDiff, Nat.reduceLT, Int.reduceToNat, ↓reduceIte, reduceCtorEq, Int.reduceLE, Int.reduceLT, Int.reduceNeg, Int.reduceEq, Int.reduceBEq, Int.reduceBNe, eG, eW, eY, Go.undef]) | (refine AIf.part (fun hb => ?_) (fun hb => ?_)) | (with_reducible refine ABoth.mk ?_ ?_))
      · exact LNext.mk (i + 1) (by omega) (by omega) (by (refine wk_mk ?_ ?_ ?_ <;> simp only [frm, List.foldl_cons, List.foldl_nil, List.replicate_succ, List.replicate_zero, WkT, WkO, AV.v.injEq, Value.int.injEq, Value.bool.injEq, Value.string.injEq, AV.vec.injEq, AV.ptr.injEq, true_or, or_true, false_or, or_false, AObj.mk.injEq, forall_eq_apply_imp_iff, forall_eq, forall_eq', go_sem, Nat.reduceAdd, Nat.reduceSub, Nat.reduceMul, Nat.reduceLeDiff, Nat.reduceEqDiff, Nat.reduceLT, Int.reduceToNat, ↓reduceIte, reduceCtorEq, Int.reduceLE, Int.reduceLT, Int.reduceNeg, Int.reduceEq, Int.reduceBEq, Int.reduceBNe]); exact wf_encN _ _)
      · exact .inr trivial
    · have e1 : encN (xs.drop i) = [] := by rw [List.drop_eq_nil_of_le (by (try simp only [bne_iff_ne, ne_eq, bne_eq_false_iff_eq, beq_iff_eq, beq_eq_false_iff_ne, decide_eq_true_eq, decide_eq_false_iff_not, Bool.not_eq_true', Bool.not_eq_false', Bool.not_eq_eq_eq_not, Bool.not_true, Bool.not_false, Int.natCast_inj, Int.ofNat_lt, Int.ofNat_le] at h); omega)]; rfl
      simp only [e1]
      repeat (first | (with_reducible first | refine Stp.up ?_ | refine fun (K : AS → Prop) hK => ?_ | refine awp_drawE (by decide +kernel) (by kernel_rfl) ?_ | refine awp_draw (by kernel_rfl) (by decide) ?_ | refine awp_boxes (by kernel_rfl) (by kernel_rfl) (by kernel_rfl) ?_ | refine adrawE_k (by decide) ?_ | refine adrawE_eff (by decide) ?_ | refine abox_plain (by decide) ?_ | refine abox_al ?_ | refine abox_st ?_ | refine adrawG_k (by decide) ?_ | refine adrawG_e (by decide) ?_) | (with_reducible refine hK _ ?_; clear hK; clear K) | simp only [go_sem, Nat.reduceAdd, Nat.reduceSub, Nat.reduceMul, Nat.reduceLeDiff, Nat.reduceEqDiff, Nat.reduceLT, Int.reduceToNat, ↓reduceIte, reduceCtorEq, Int.reduceLE, Int.reduceLT, Int.reduceNeg, Int.reduceEq, Int.reduceBEq, Int.reduceBNe] | (with_reducible refine And.intro (by omega) ?_) | (clear hK; clear K))
      exact .inl trivial
set_option maxRecDepth 100000 in
/-- slices.Values of a row that is owned: it stays owned -/
theorem valuesN_any (v : Value) (hv : ∃ a n c, v = .slice a n c) (w : World) : Calls Try.prog 13 #[v] w (fun e w' => e = .returned (.func (.func 37) #[] #[.pointer (some ⟨w.heap.size, 0, none⟩)]) ∧ w' = w.alloc (.cells #[v] 29)) := by
  obtain ⟨a, n, c, rfl⟩ := hv
  go_enter Try.func13, Try.ntmps13
  go_wp2
  go_ret
  exact ⟨rfl, rfl⟩
theorem valuesN_s {o : List (Option AObj)} {id : Nat} {ob : AObj} (ho : o[id]? = some (some ob)) (hv : ob.isV = true) : CallS Try.prog 13 [.vec id ob.rows.length] o (.fn 37 [] [.vp [.vec id ob.rows.length]]) := by
  refine ⟨by kernel_rfl, fun D nu w vargs hro hra => ?_⟩
  obtain ⟨x, rfl, hx⟩ := ras_one hra
  obtain ⟨h1, rfl⟩ : hdrOk o id ob.rows.length ∧ x = nu id ob.rows.length := by
    cases hx with
    | vec _ _ h1 _ => exact ⟨h1, rfl⟩
  have hs : ∃ a n c, nu id ob.rows.length = .slice a n c := by
    rcases hro.obj id ob ho with ⟨_, e2, e3⟩ | ⟨g, cur, hb⟩ | ⟨g, es, cl, hm⟩
    · exact ⟨none, 0, 0, by rw [e2]; exact e3⟩
    · obtain ⟨cap, k1, _⟩ := hb.vec hv
      exact ⟨_, _, _, k1⟩
    · have := hm.isV; rw [hv] at this; cases this
  refine (valuesN_any _ hs w).mono ?_
  rintro e w' ⟨rfl, rfl⟩
  have hb : Below w.heap.size w (w.alloc (.cells #[nu id ob.rows.length] 29)) := below_alloc' _ _
  have hone : (nu id ob.rows.length).oneCell' = true := by obtain ⟨a, n, c, e⟩ := hs; rw [e]; rfl
  refine ⟨_, rfl, hb, .fn _ _ _ _ _ rfl rfl (fun i c x k1 _ => by simp at k1) (fun i c x k1 k2 => ?_)⟩
  match i, k1, k2 with
  | 0, k1, k2 =>
    cases k1; cases k2
    refine .vp _ _ _ (fun _ => nu id ob.rows.length) ⟨by simp, fun ho => ?_, hro.up _ (Nat.le_refl _)⟩ (fun j c hc => ?_) (fun j c hc => ?_) (fun _ _ _ => hone)
    · have := hro.owned_lt ho; omega
    · have hj : j = 0 := by have := (List.getElem?_eq_some_iff.1 hc).1; simp at this; omega
      subst hj; simp
    · have hj : j = 0 := by have := (List.getElem?_eq_some_iff.1 hc).1; simp at this; omega
      subst hj; cases hc
      exact .vec _ _ h1 hone
  | i + 1, k1, k2 => simp at k1
/-- what slices.DeleteFunc for numbers reaches -/
def delRen : Go.Shelf.Ren := ⟨fun | 6 => 48 | 10 => 26 | n => n, fun | 0 => 0 | 3 => 3 | 4 => 4 | 22 => 29 | 23 => 3 | 25 => 62 | n => n, fun n => n⟩
theorem delLays : SlLaysH.n10 Try.prog delRen := {
  mixed := by kernel_rfl
  f6 := ⟨Try.f48.name, by decide, Try.func48⟩
  f10 := ⟨Try.f26.name, by decide, Try.func26⟩
  t0 := by kernel_rfl
  a0 := fun w => by kernel_rfl
  z0 := fun w => by kernel_rfl
  v0 := fun w => by kernel_rfl
  t3 := by kernel_rfl
  a3 := fun w => by kernel_rfl
  z3 := fun w => by kernel_rfl
  v3 := fun w => by kernel_rfl
  t4 := by kernel_rfl
  a4 := fun w => by kernel_rfl
  z4 := fun w => by kernel_rfl
  v4 := fun w => by kernel_rfl
  t22 := by kernel_rfl
  a22 := fun w => by kernel_rfl
  z22 := fun w => by kernel_rfl
  v22 := fun w => by kernel_rfl
  a23 := fun w => by kernel_rfl
  z23 := fun w => by kernel_rfl
  t25 := by kernel_rfl
  a25 := fun w => by kernel_rfl
  z25 := fun w => by kernel_rfl
  v25 := fun w => by kernel_rfl }
theorem encN_rows (l : List Nat) : encN l = rowsV (Value.int .i64) (toI l) := by simp [encN, rowsV, toI]
theorem ofD_any (n k : Int) (b : Nat) (w : World) (hc : w.cell? ⟨b, 0, none⟩ = some (.int .i64 k)) : FnGives Try.prog 27 #[.pointer (some ⟨b, 0, none⟩)] #[.int .i64 n] (.bool (n == k)) w := by
  show Calls Try.prog 27 #[.int .i64 n, .pointer (some ⟨b, 0, none⟩)] w _
  go_enter Try.func27, Try.ntmps27
  go_wp2
  all_goals (go_ret; exact ⟨by simp_all, 0, rfl⟩)
open Go.Sort in
set_option maxRecDepth 100000 in
set_option maxHeartbeats 4000000 in
theorem deleteN_e (l : List Nat) (k : Nat) (hl : l.length ≤ 1000000) (hne : l ≠ []) :
    CallE Try.prog 26 [.vec 0 l.length, .fn 27 [] [.ptr 1 0 1 0 0]] [some ⟨3, 1, true, encN l⟩, some ⟨3, 1, false, [[.v (.int .i64 k)]]⟩] (.vec 2 (l.filter (fun j => j != k)).length)
      [none, some ⟨3, 1, false, [[.v (.int .i64 k)]]⟩, some ⟨3, 1, true, encN (l.filter (fun j => j != k))⟩] := by
  have hf : (toI l).filter (fun x => !(x == (k : Int))) = toI (l.filter (fun j => j != k)) := by
    rw [toI, toI, List.filter_map]
    congr 1
    refine List.filter_congr (fun x _ => ?_)
    simp only [Function.comp, bne]
    congr 1
    rw [Bool.eq_iff_iff, beq_iff_eq, beq_iff_eq]; omega
  have hlen : (toI (l.filter (fun j => j != k))).length = (l.filter (fun j => j != k)).length := by simp [toI]
  have hle : (l.filter (fun j => j != k)).length ≤ l.length := List.length_filter_le _ _
  have hl1 : (toI l).length = l.length := by simp [toI]
  have key := CallE.row (P := Try.prog) (enc := Value.int .i64) (fun _ => rfl) (f := 26) (args := [.fn 27 [] [.ptr 1 0 1 0 0]]) (T := 3) (d := toI l) (o1 := [some ⟨3, 1, false, [[.v (.int .i64 k)]]⟩])
    (d' := toI (l.filter (fun j => j != k)) ++ List.replicate (l.length - (l.filter (fun j => j != k)).length) 0) (k := (l.filter (fun j => j != k)).length) (by rw [List.length_append, List.length_replicate, hlen, hl1]; omega) (by omega) (by kernel_rfl) ?_ ?_
  · rw [List.take_append_of_le_length (by omega), List.take_of_length_le (by omega)] at key
    rw [hl1, ← encN_rows, ← encN_rows] at key
    exact key
  · intro D nu w vargs cap blk hro hra hH hblk hnu hcap hmx
    obtain ⟨x, rfl, hx⟩ := ras_one hra
    obtain ⟨b, hb0, rfl⟩ : ∃ b, blkOf (nu 1 0) = some b ∧ x = .func (.func 27) #[] #[.pointer (some ⟨b, 0, none⟩)] := by
      cases hx with
      | fn _ _ _ fi ca h1 h2 h3 h4 =>
        have e1 : fi = #[] := Array.eq_empty_of_size_eq_zero (by simpa using h1.symm)
        subst e1
        obtain ⟨y, rfl⟩ : ∃ y, ca = #[y] := by
          obtain ⟨cl⟩ := ca
          match cl, h2 with
          | [y], _ => exact ⟨y, rfl⟩
        have h5 := h4 0 _ y rfl rfl
        cases h5 with
        | ptr _ _ _ _ _ b k1 k2 => exact ⟨b, k2, by simp⟩
    obtain ⟨g, cur, hg⟩ : ∃ g cur, ROb D nu [some ⟨3, 1, true, rowsV (Value.int .i64) (toI l)⟩, some ⟨3, 1, false, [[.v (.int .i64 k)]]⟩] w 1 ⟨3, 1, false, [[.v (.int .i64 k)]]⟩ g cur := by
      rcases hro.obj 1 _ rfl with ⟨e1, _⟩ | h | ⟨g, es, cl, hm⟩
      · cases e1
      · exact h
      · have := hm.z; cases this
    obtain rfl : g = b := by have := hg.blkOfEq; rw [show nu 1 (AObj.hl ⟨3, 1, false, [[.v (.int .i64 k)]]⟩) = nu 1 0 from rfl, hb0] at this; cases this; rfl
    have hlt : g < w.heap.size := (Array.getElem?_eq_some_iff.1 hg.blk).1
    have hne' : g ≠ blk := fun e => hro.sep 1 0 _ _ g rfl rfl (by decide) hg.blkEq (by
      show blkM (nu 0 (rowsV (Value.int .i64) (toI l)).length) = some g
      rw [show (rowsV (Value.int .i64) (toI l)).length = (toI l).length by simp [rowsV], hnu, e]; rfl)
    have hcell : w.cell? ⟨g, 0, none⟩ = some (.int .i64 (k : Int)) := by
      have h1 := hg.curLt (i := 0) (j := 0) (row := [.v (.int .i64 k)]) rfl Nat.zero_lt_one
      have h3 := (hg.cell 0 0 _ _ _ rfl rfl (Array.getElem?_eq_getElem h1)).v_eq
      simp only [Nat.zero_mul, Nat.add_zero] at h1 h3
      simp [World.cell?, hg.blk, h1, h3]
    have hD := AnyE.slices_DeleteFunc (P := Try.prog) (ρ := delRen) delLays (Value.int .i64) (fun _ => rfl) (fun x => x == (k : Int)) 27 #[.pointer (some ⟨g, 0, none⟩)] (enters_of Try.func27 (by kernel_rfl) rfl) 0 (fun w => by kernel_rfl) blk 0 cap (toI l).toArray w
      (fun W x hb => ofD_any x k g W ((hb.cell (p := ⟨g, 0, none⟩) hlt).trans hcell))
      (fun n os dk x _ => ofD_any x k g _ (by
        unfold sortWorld
        rw [cell?_grow _ _ _ (by show g < (putRow _ _ _ _ _).heap.size; rw [size_putRow]; exact hlt), cell?_putRow_other _ _ blk 0 _ _ (Or.inl hne')]
        exact hcell))
      hH (by simp [toI]; omega) (by simpa using hcap)
    simp only [List.toList_toArray, hf, List.size_toArray, hl1, hlen] at hD
    change Calls Try.prog 26 _ _ _ at hD
    rw [hl1]
    refine hD.mono ?_
    rintro e w' ⟨rfl, q, rfl⟩
    exact ⟨rfl, q, #[], by rw [grow_empty]⟩
  · intro h
    exact absurd (by simpa [toI] using h) hne
end Go.Proofs.Ytokoneddljheaaa
