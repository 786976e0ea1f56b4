/- nfa: step. -/
import Derived.Test.YtmdkgajjekbanaaDoorKNfaM
set_option linter.unusedSimpArgs false
set_option linter.unusedVariables false
namespace Go.Proofs.YtmdkgajjekbanaaDoor
open Go.RowKit

/-- those that follow any of some -/
def outM (s : NSt) (l : List Nat) : BitVec 32 := l.foldl (fun t p => t ||| s.fs.getD p 0#32) 0#32
/-- without those of another label -/
def keepM1 (s : NSt) (lab : ByteArray) (t : BitVec 32) (p : Nat) : BitVec 32 := if (labAt s p).toList == lab.toList then t else t &&& ~~~ ofM p
def keepM (s : NSt) (lab : ByteArray) (l : List Nat) (t : BitVec 32) : BitVec 32 := l.foldl (keepM1 s lab) t
def stepM (s : NSt) (frm : BitVec 32) (lab : ByteArray) : BitVec 32 := keepM s lab (bitsM (outM s (bitsM frm))) (outM s (bitsM frm))
theorem outM_snoc (s : NSt) (l : List Nat) (p : Nat) : outM s (l ++ [p]) = outM s l ||| s.fs.getD p 0#32 := by rw [outM, List.foldl_append]; rfl
theorem keepM_snoc (s : NSt) (lab : ByteArray) (l : List Nat) (t : BitVec 32) (p : Nat) : keepM s lab (l ++ [p]) t = keepM1 s lab (keepM s lab l t) p := by rw [keepM, List.foldl_append]; rfl
set_option maxRecDepth 100000 in
set_option maxHeartbeats 4000000 in
theorem step_c (s : NSt) (fr : BitVec 32) (lab : ByteArray) (hf : s.fs.length = 25) (hn : s.labs.length ≤ 24) (h1 : ∀ p ∈ bitsM fr, p < 25) (h2 : ∀ p ∈ bitsM (outM s (bitsM fr)), 1 ≤ p ∧ p ≤ s.labs.length) :
    Call1 Tryd.prog 54 [.vp (nfaV s), encM fr, .v (.string lab)] (encM (stepM s fr lab)) := by
  have A1 := setAll_e fr
  have A2 := setAll_e (outM s (bitsM fr))
  have O := fun p => of_c p
  have hV := wf_nfaV
  obtain ⟨V, hVe⟩ : ∃ V, V = nfaV s := ⟨_, rfl⟩
  simp only [boxM, encM] at *
  (refine Call1.enter Tryd.func54 rfl (by kernel_rfl) (by kernel_rfl) rfl (by first | rfl | (simp only [go_sem, Bool.and_self, Bool.and_true, Bool.true_and])) (by first | rfl | (simp only [go_sem, Bool.and_self, Bool.and_true, Bool.true_and])) ?_; simp only [Tryd.ntmps54, Tryd.results54, List.length_cons, List.length_nil, Nat.reduceAdd, Nat.reduceSub, List.replicate_succ, List.replicate_zero, List.cons_append, List.nil_append])
  repeat (first | (with_reducible first | refine Stp.up ?_ | refine fun (K : AS → Prop) hK => ?_ | refine awp_drawE (by decide +kernel) (by kernel_rfl) ?_ | refine awp_draw (by kernel_rfl) (by decide) ?_ | refine awp_boxes (by kernel_rfl) (by kernel_rfl) (by kernel_rfl) ?_ | refine adrawE_k (by decide) ?_ | refine adrawE_eff (by decide) ?_ | refine abox_plain (by decide) ?_ | refine abox_al ?_ | refine abox_st ?_ | refine adrawG_k (by decide) ?_ | refine adrawG_e (by decide) ?_) | (with_reducible refine hK _ ?_; clear hK; clear K) | simp only [go_sem, Nat.reduceAdd, Nat.reduceSub, Nat.reduceMul, Nat.reduceLeDiff, Nat.reduceEqDiff, Nat.reduceLT, Int.reduceToNat, ↓reduceIte, reduceCtorEq, Int.reduceLE, Int.reduceLT, Int.reduceNeg, Int.reduceEq, Int.reduceBEq, Int.reduceBNe] | (with_reducible refine And.intro (by omega) ?_) | (clear hK; clear K))
  refine ACallV.fr [] A1 (by simp) ?_ ?_ ?_ ?_ ?_
  · rfl
  · rfl
  · rfl
  · intro k ob hk; simp at hk
  repeat (first | (with_reducible first | refine Stp.up ?_ | refine fun (K : AS → Prop) hK => ?_ | refine awp_drawE (by decide +kernel) (by kernel_rfl) ?_ | refine awp_draw (by kernel_rfl) (by decide) ?_ | refine awp_boxes (by kernel_rfl) (by kernel_rfl) (by kernel_rfl) ?_ | refine adrawE_k (by decide) ?_ | refine adrawE_eff (by decide) ?_ | refine abox_plain (by decide) ?_ | refine abox_al ?_ | refine abox_st ?_ | refine adrawG_k (by decide) ?_ | refine adrawG_e (by decide) ?_) | (with_reducible refine hK _ ?_; clear hK; clear K) | simp only [go_sem, Nat.reduceAdd, Nat.reduceSub, Nat.reduceMul, Nat.reduceLeDiff, Nat.reduceEqDiff, Nat.reduceLT, Int.reduceToNat, ↓reduceIte, reduceCtorEq, Int.reduceLE, Int.reduceLT, Int.reduceNeg, Int.reduceEq, Int.reduceBEq, Int.reduceBNe] | (with_reducible refine And.intro (by omega) ?_) | (clear hK; clear K))
  refine awp_rangeSet fr 3 (by simp only [boxM, encM]; rfl) 7 (fun k => [some ⟨29, 1, false, [[.vp (nfaV s)]]⟩, some ⟨9, 1, false, [[.v (.string lab)]]⟩, some ⟨69, 1, false, [[encM (outM s ((bitsM fr).take k))]]⟩, none]) (fun _ => True) trivial ?_ rfl ?_ (by kernel_rfl) (by kernel_rfl) rfl ?_ ?_
  · rfl
  · simp only [encM]
    (refine wk_mk ?_ ?_ ?_ <;> simp only [frm, List.foldl_cons, List.foldl_nil, List.replicate_succ, List.replicate_zero, WkT, WkO, AV.v.injEq, Value.int.injEq, Value.bool.injEq, Value.string.injEq, AV.vec.injEq, AV.ptr.injEq, true_or, or_true, false_or, or_false, AObj.mk.injEq, forall_eq_apply_imp_iff, forall_eq, forall_eq', go_sem, Nat.reduceAdd, Nat.reduceSub, Nat.reduceMul, Nat.reduceLeDiff, Nat.reduceEqDiff, Nat.reduceLT, Int.reduceToNat, ↓reduceIte, reduceCtorEq, Int.reduceLE, Int.reduceLT, Int.reduceNeg, Int.reduceEq, Int.reduceBEq, Int.reduceBNe])
    all_goals rfl
  · intro k hk _
    have hp := h1 _ (List.getElem_mem hk)
    rw [List.take_succ_eq_append_getElem hk, outM_snoc]
    generalize outM s ((bitsM fr).take k) = T at *
    generalize (bitsM fr)[k] = p at *
    obtain ⟨r, eD⟩ := fs_drop0 (X := [.v (.int .u32 s.la.toNat), .v (.bool s.em)]) (fs := s.fs) (p := p) (by omega)
    simp only [encM, nfaV] at eD ⊢
    repeat (first | (with_reducible first | refine Stp.up ?_ | refine fun (K : AS → Prop) hK => ?_ | refine awp_drawE (by decide +kernel) (by kernel_rfl) ?_ | refine awp_draw (by kernel_rfl) (by decide) ?_ | refine awp_boxes (by kernel_rfl) (by kernel_rfl) (by kernel_rfl) ?_ | refine adrawE_k (by decide) ?_ | refine adrawE_eff (by decide) ?_ | refine abox_plain (by decide) ?_ | refine abox_al ?_ | refine abox_st ?_ | refine adrawG_k (by decide) ?_ | refine adrawG_e (by decide) ?_) | (with_reducible refine hK _ ?_; clear hK; clear K) | simp only [go_sem, Nat.reduceAdd, Nat.reduceSub, Nat.reduceMul, Nat.reduceLeDiff, Nat.reduceEqDiff, Nat.reduceLT, Int.reduceToNat, ↓reduceIte, reduceCtorEq, Int.reduceLE, Int.reduceLT, Int.reduceNeg, Int.reduceEq, Int.reduceBEq, Int.reduceBNe, eD, msk_or] | (with_reducible refine And.intro (by omega) ?_) | (clear hK; clear K))
    (refine wk_mk ?_ ?_ ?_ <;> simp only [frm, List.foldl_cons, List.foldl_nil, List.replicate_succ, List.replicate_zero, WkT, WkO, AV.v.injEq, Value.int.injEq, Value.bool.injEq, Value.string.injEq, AV.vec.injEq, AV.ptr.injEq, true_or, or_true, false_or, or_false, AObj.mk.injEq, forall_eq_apply_imp_iff, forall_eq, forall_eq', go_sem, Nat.reduceAdd, Nat.reduceSub, Nat.reduceMul, Nat.reduceLeDiff, Nat.reduceEqDiff, Nat.reduceLT, Int.reduceToNat, ↓reduceIte, reduceCtorEq, Int.reduceLE, Int.reduceLT, Int.reduceNeg, Int.reduceEq, Int.reduceBEq, Int.reduceBNe])
  · intro _
    have e1 : (bitsM fr).take (bitsM fr).length = bitsM fr := List.take_length
    simp only [e1, encM, nfaV]
    repeat (first | (with_reducible first | refine Stp.up ?_ | refine fun (K : AS → Prop) hK => ?_ | refine awp_drawE (by decide +kernel) (by kernel_rfl) ?_ | refine awp_draw (by kernel_rfl) (by decide) ?_ | refine awp_boxes (by kernel_rfl) (by kernel_rfl) (by kernel_rfl) ?_ | refine adrawE_k (by decide) ?_ | refine adrawE_eff (by decide) ?_ | refine abox_plain (by decide) ?_ | refine abox_al ?_ | refine abox_st ?_ | refine adrawG_k (by decide) ?_ | refine adrawG_e (by decide) ?_) | (with_reducible refine hK _ ?_; clear hK; clear K) | simp only [go_sem, Nat.reduceAdd, Nat.reduceSub, Nat.reduceMul, Nat.reduceLeDiff, Nat.reduceEqDiff, Nat.reduceLT, Int.reduceToNat, ↓reduceIte, reduceCtorEq, Int.reduceLE, Int.reduceLT, Int.reduceNeg, Int.reduceEq, Int.reduceBEq, Int.reduceBNe] | (with_reducible refine And.intro (by omega) ?_) | (clear hK; clear K))
    refine ACallV.fr [] A2 (by simp) ?_ ?_ ?_ ?_ ?_
    · rfl
    · rfl
    · rfl
    · intro k ob hk; simp at hk
    repeat (first | (with_reducible first | refine Stp.up ?_ | refine fun (K : AS → Prop) hK => ?_ | refine awp_drawE (by decide +kernel) (by kernel_rfl) ?_ | refine awp_draw (by kernel_rfl) (by decide) ?_ | refine awp_boxes (by kernel_rfl) (by kernel_rfl) (by kernel_rfl) ?_ | refine adrawE_k (by decide) ?_ | refine adrawE_eff (by decide) ?_ | refine abox_plain (by decide) ?_ | refine abox_al ?_ | refine abox_st ?_ | refine adrawG_k (by decide) ?_ | refine adrawG_e (by decide) ?_) | (with_reducible refine hK _ ?_; clear hK; clear K) | simp only [go_sem, Nat.reduceAdd, Nat.reduceSub, Nat.reduceMul, Nat.reduceLeDiff, Nat.reduceEqDiff, Nat.reduceLT, Int.reduceToNat, ↓reduceIte, reduceCtorEq, Int.reduceLE, Int.reduceLT, Int.reduceNeg, Int.reduceEq, Int.reduceBEq, Int.reduceBNe] | (with_reducible refine And.intro (by omega) ?_) | (clear hK; clear K))
    have hS : stepM s fr lab = keepM s lab (bitsM (outM s (bitsM fr))) (outM s (bitsM fr)) := rfl
    generalize outM s (bitsM fr) = T at *
    refine awp_rangeSet T 4 (by simp only [boxM, encM]; rfl) 7 (fun k => [some ⟨29, 1, false, [[.vp (nfaV s)]]⟩, some ⟨9, 1, false, [[.v (.string lab)]]⟩, some ⟨69, 1, false, [[encM (keepM s lab ((bitsM T).take k) T)]]⟩, none, none]) (fun _ => True) trivial ?_ rfl ?_ (by kernel_rfl) (by kernel_rfl) rfl ?_ ?_
    · rfl
    · simp only [encM, nfaV]
      (refine wk_mk ?_ ?_ ?_ <;> simp only [frm, List.foldl_cons, List.foldl_nil, List.replicate_succ, List.replicate_zero, WkT, WkO, AV.v.injEq, Value.int.injEq, Value.bool.injEq, Value.string.injEq, AV.vec.injEq, AV.ptr.injEq, true_or, or_true, false_or, or_false, AObj.mk.injEq, forall_eq_apply_imp_iff, forall_eq, forall_eq', go_sem, Nat.reduceAdd, Nat.reduceSub, Nat.reduceMul, Nat.reduceLeDiff, Nat.reduceEqDiff, Nat.reduceLT, Int.reduceToNat, ↓reduceIte, reduceCtorEq, Int.reduceLE, Int.reduceLT, Int.reduceNeg, Int.reduceEq, Int.reduceBEq, Int.reduceBNe])
      all_goals rfl
    · intro k hk _
      have hp := h2 _ (List.getElem_mem hk)
      rw [List.take_succ_eq_append_getElem hk, keepM_snoc, keepM1]
      generalize keepM s lab ((bitsM T).take k) T = U at *
      generalize (bitsM T)[k] = p at *
      have eG := labAt_row (s := s) (p := p) (by omega) (by omega)
      have eW : IntKind.i64.wrap ((p : Int) - 1) = (p : Int) - 1 := wrap_id (by omega) (by omega)
      have C := O p
      simp only [encM, nfaV]
      cases hq : (labAt s p).toList == lab.toList
      · simp only [Bool.false_eq_true, if_false]
        repeat ((fail_if_success (with_reducible refine stopR (i := 7) ?_)); first | (with_reducible first | refine Stp.up ?_ | refine fun (K : AS → Prop) hK => ?_ | refine adrawE_k (by decide) ?_ | refine adrawE_eff (by decide) ?_ | refine abox_plain (by decide) ?_ | refine abox_al ?_ | refine abox_st ?_ | refine adrawG_k (by decide) ?_ | refine adrawG_e (by decide) ?_) | (with_reducible refine hK _ ?_; clear hK; clear K) | simp only [go_sem, Nat.reduceAdd, Nat.reduceSub, Nat.reduceMul, Nat.reduceLeDiff, Nat.reduceEqDiff, Nat.reduceLT, Int.reduceToNat, ↓reduceIte, reduceCtorEq, Int.reduceLE, Int.reduceLT, Int.reduceNeg, Int.reduceEq, Int.reduceBEq, Int.reduceBNe, eG, eW, hq] | (with_reducible refine And.intro (by omega) ?_) | (clear hK; clear K))
        refine awp_draw (by kernel_rfl) (by decide) ?_
        repeat (first | (with_reducible first | refine Stp.up ?_ | refine fun (K : AS → Prop) hK => ?_ | refine adrawE_k (by decide) ?_ | refine adrawE_eff (by decide) ?_ | refine abox_plain (by decide) ?_ | refine abox_al ?_ | refine abox_st ?_ | refine adrawG_k (by decide) ?_ | refine adrawG_e (by decide) ?_) | (with_reducible refine hK _ ?_; clear hK; clear K) | simp only [go_sem, Nat.reduceAdd, Nat.reduceSub, Nat.reduceMul, Nat.reduceLeDiff, Nat.reduceEqDiff, Nat.reduceLT, Int.reduceToNat, ↓reduceIte, reduceCtorEq, Int.reduceLE, Int.reduceLT, Int.reduceNeg, Int.reduceEq, Int.reduceBEq, Int.reduceBNe, eG, eW, hq] | (with_reducible refine And.intro (by omega) ?_) | (clear hK; clear K))
        refine awp_drawG [4] [] (by decide +kernel) (by kernel_rfl) ?_
        repeat (first | (with_reducible first | refine Stp.up ?_ | refine fun (K : AS → Prop) hK => ?_ | refine adrawE_k (by decide) ?_ | refine adrawE_eff (by decide) ?_ | refine abox_plain (by decide) ?_ | refine abox_al ?_ | refine abox_st ?_ | refine adrawG_k (by decide) ?_ | refine adrawG_e (by decide) ?_) | (with_reducible refine hK _ ?_; clear hK; clear K) | simp only [go_sem, Nat.reduceAdd, Nat.reduceSub, Nat.reduceMul, Nat.reduceLeDiff, Nat.reduceEqDiff, Nat.reduceLT, Int.reduceToNat, ↓reduceIte, reduceCtorEq, Int.reduceLE, Int.reduceLT, Int.reduceNeg, Int.reduceEq, Int.reduceBEq, Int.reduceBNe, eG, eW, hq] | (with_reducible refine And.intro (by omega) ?_) | (clear hK; clear K))
        refine ACallS.one C ?_
        repeat (first | (with_reducible first | refine Stp.up ?_ | refine fun (K : AS → Prop) hK => ?_ | refine adrawE_k (by decide) ?_ | refine adrawE_eff (by decide) ?_ | refine abox_plain (by decide) ?_ | refine abox_al ?_ | refine abox_st ?_ | refine adrawG_k (by decide) ?_ | refine adrawG_e (by decide) ?_) | (with_reducible refine hK _ ?_; clear hK; clear K) | simp only [go_sem, Nat.reduceAdd, Nat.reduceSub, Nat.reduceMul, Nat.reduceLeDiff, Nat.reduceEqDiff, Nat.reduceLT, Int.reduceToNat, ↓reduceIte, reduceCtorEq, Int.reduceLE, Int.reduceLT, Int.reduceNeg, Int.reduceEq, Int.reduceBEq, Int.reduceBNe, msk_not] | (with_reducible refine And.intro (by omega) ?_) | (clear hK; clear K))
        (refine wk_mk ?_ ?_ ?_ <;> simp only [frm, List.foldl_cons, List.foldl_nil, List.replicate_succ, List.replicate_zero, WkT, WkO, AV.v.injEq, Value.int.injEq, Value.bool.injEq, Value.string.injEq, AV.vec.injEq, AV.ptr.injEq, true_or, or_true, false_or, or_false, AObj.mk.injEq, forall_eq_apply_imp_iff, forall_eq, forall_eq', go_sem, Nat.reduceAdd, Nat.reduceSub, Nat.reduceMul, Nat.reduceLeDiff, Nat.reduceEqDiff, Nat.reduceLT, Int.reduceToNat, ↓reduceIte, reduceCtorEq, Int.reduceLE, Int.reduceLT, Int.reduceNeg, Int.reduceEq, Int.reduceBEq, Int.reduceBNe])
        all_goals rfl
      · simp only [if_true]
        repeat (first | (with_reducible first | refine Stp.up ?_ | refine fun (K : AS → Prop) hK => ?_ | refine awp_drawE (by decide +kernel) (by kernel_rfl) ?_ | refine awp_draw (by kernel_rfl) (by decide) ?_ | refine awp_boxes (by kernel_rfl) (by kernel_rfl) (by kernel_rfl) ?_ | refine adrawE_k (by decide) ?_ | refine adrawE_eff (by decide) ?_ | refine abox_plain (by decide) ?_ | refine abox_al ?_ | refine abox_st ?_ | refine adrawG_k (by decide) ?_ | refine adrawG_e (by decide) ?_) | (with_reducible refine hK _ ?_; clear hK; clear K) | simp only [go_sem, Nat.reduceAdd, Nat.reduceSub, Nat.reduceMul, Nat.reduceLeDiff, Nat.reduceEqDiff, Nat.reduceLT, Int.reduceToNat, ↓reduceIte, reduceCtorEq, Int.reduceLE, Int.reduceLT, Int.reduceNeg, Int.reduceEq, Int.reduceBEq, Int.reduceBNe, eG, eW, hq] | (with_reducible refine And.intro (by omega) ?_) | (clear hK; clear K))
        (refine wk_mk ?_ ?_ ?_ <;> simp only [frm, List.foldl_cons, List.foldl_nil, List.replicate_succ, List.replicate_zero, WkT, WkO, AV.v.injEq, Value.int.injEq, Value.bool.injEq, Value.string.injEq, AV.vec.injEq, AV.ptr.injEq, true_or, or_true, false_or, or_false, AObj.mk.injEq, forall_eq_apply_imp_iff, forall_eq, forall_eq', go_sem, Nat.reduceAdd, Nat.reduceSub, Nat.reduceMul, Nat.reduceLeDiff, Nat.reduceEqDiff, Nat.reduceLT, Int.reduceToNat, ↓reduceIte, reduceCtorEq, Int.reduceLE, Int.reduceLT, Int.reduceNeg, Int.reduceEq, Int.reduceBEq, Int.reduceBNe])
        all_goals rfl
    · intro _
      have e2 : (bitsM T).take (bitsM T).length = bitsM T := List.take_length
      simp only [e2, encM, nfaV]
      repeat (first | (with_reducible first | refine Stp.up ?_ | refine fun (K : AS → Prop) hK => ?_ | refine awp_drawE (by decide +kernel) (by kernel_rfl) ?_ | refine awp_draw (by kernel_rfl) (by decide) ?_ | refine awp_boxes (by kernel_rfl) (by kernel_rfl) (by kernel_rfl) ?_ | refine adrawE_k (by decide) ?_ | refine adrawE_eff (by decide) ?_ | refine abox_plain (by decide) ?_ | refine abox_al ?_ | refine abox_st ?_ | refine adrawG_k (by decide) ?_ | refine adrawG_e (by decide) ?_) | (with_reducible refine hK _ ?_; clear hK; clear K) | simp only [go_sem, Nat.reduceAdd, Nat.reduceSub, Nat.reduceMul, Nat.reduceLeDiff, Nat.reduceEqDiff, Nat.reduceLT, Int.reduceToNat, ↓reduceIte, reduceCtorEq, Int.reduceLE, Int.reduceLT, Int.reduceNeg, Int.reduceEq, Int.reduceBEq, Int.reduceBNe] | (with_reducible refine And.intro (by omega) ?_) | (clear hK; clear K))
      rw [hS]
end Go.Proofs.YtmdkgajjekbanaaDoor
