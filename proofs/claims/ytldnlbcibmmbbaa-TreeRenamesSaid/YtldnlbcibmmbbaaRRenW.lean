/- tree.Rename, walked once more: what it tells lies in blocks that are none of A. -/
import Derived.Test.YtldnlbcibmmbbaaRRen2
import Derived.Test.YtldnlbcibmmbbaaRWit
set_option linter.unusedSimpArgs false
set_option linter.unusedVariables false
namespace Go.Proofs.Ytldnlbcibmmbbaa
open Go.RowKit

theorem cloneW0_c : Call1 Try.prog 59 [.slc 3 [] 0] (.full (.slc 3 [] 0)) := by
 refine ⟨⟨rfl, rfl⟩, by kernel_rfl, fun D nu w vargs hro hra => ?_⟩
 obtain ⟨x, rfl, hx⟩ := ras_one hra
 have hv : x = .slice none 0 0 ∨ ∃ a c, x = .slice (some a) 0 c := by
  cases hx with
  | slcNil => exact .inl rfl
  | slcOdd _ a => exact .inr ⟨_, _, rfl⟩
  | slc => exact .inr ⟨_, _, rfl⟩
 refine (clone_any x hv w).mono ?_
 rintro e w' ⟨he, hb⟩
 rcases he with rfl | ⟨a, rfl⟩
 ·exact ⟨_, nu, [], .full (.slc 3 [] 0), rfl, mono_below hb, hro.below hb, .full _ _ ⟨_, _, rfl⟩ (.slcNil 3), rfl, rfl⟩
 ·exact ⟨_, nu, [], .full (.slc 3 [] 0), rfl, mono_below hb, hro.below hb, .full _ _ ⟨_, _, rfl⟩ (.slcOdd 3 a), rfl, rfl⟩
set_option maxRecDepth 100000 in
theorem cloneW_c (A : Nat → Prop) (l : List Ex) (hl : l.length ≤ 1000000) (h0 : l ≠ []) : CallE Try.prog 59 [.slc 3 (l.map (encW A)) l.length] [] (.vec 0 l.length) [some ⟨43, 3, true, l.map (encW A)⟩] := by
 have hne : (l.map (encW A) = []) = False := eq_false (by simpa using h0)
 have hW := wf_encW A
 (refine CallE.enter Try.func59 rfl (by kernel_rfl) (by kernel_rfl) rfl ?_; simp only [Try.ntmps59, Try.results59, List.length_cons, List.length_nil, Nat.reduceAdd, Nat.reduceSub, List.replicate_succ, List.replicate_zero, List.cons_append, List.nil_append])
 have eT : List.take l.length (List.map (encW A) l) = List.map (encW A) l := List.take_of_length_le (by simp)
 repeat' (first | (with_reducible first | refine Stp.up ?_ | refine fun (K : AK) hK => ?_ | (refine hK _ ?_; clear hK K)) | simp only [go_sem, hne, ne_eq, not_false_eq_true, isSlc, eT, List.length_map] | with_reducible refine wA ?_ | clear hK K | (with_reducible refine ACallV.one (by assumption) ?_) | (with_reducible refine ACallS.one (by assumption) ?_) | (refine AIf.part (fun hb => ?_) (fun hb => ?_) <;> simp only [hb, go_sem, hne, ne_eq, not_false_eq_true, isSlc, eT, List.length_map]) | (refine AIf.part (fun hb => ?_) (fun hb => ?_)) | (with_reducible refine ABoth.mk ?_ ?_))
 (refine ⟨?_, ?_, ?_⟩ <;> simp only [WkT, WkO, AV.v.injEq, Value.int.injEq, Value.bool.injEq, Value.string.injEq, AV.vec.injEq, AV.ptr.injEq, true_or, or_true, false_or, or_false, AObj.mk.injEq, forall_eq_apply_imp_iff, forall_eq, forall_eq', go_sem])
set_option maxRecDepth 100000 in
set_option maxHeartbeats 2000000 in
theorem copiedW_of (A : Nat → Prop) (k : Int) (s : ByteArray) (l : List Ex) (hl : l.length ≤ 1000000) (H : ∀ x, x ∈ l → Call1 Try.prog 30 [.agg (encW A x)] (.agg (encF A x))) :
  Call1 Try.prog 30 [.agg (encW A (.mk k s l))] (.agg (encF A (.mk k s l))) := by
 have hW := wf_encW A
 have hF := wf_encF A
 have hwf : wfL 0 [.agg (encW A (.mk k s l))] = true := by simp only [wfL, AV.wf, wf_encW1, Bool.and_self]
 rw [encW_eq] at hwf ⊢
 simp only [Ex.kind, Ex.label, Ex.kids] at hwf ⊢
 by_cases h0 : l = []
 ·subst h0
  have C := cloneW0_c
  refine Call1.enterS Try.func30 rfl (by kernel_rfl) (by kernel_rfl) rfl hwf (by rw [AV.wf, wf_encF1]) ?_
  simp only [Try.ntmps30, Try.results30, List.length_cons, List.length_nil, Nat.reduceAdd, Nat.reduceSub, List.replicate_succ, List.replicate_zero, List.cons_append, List.nil_append]
  repeat' (first | (with_reducible first | refine Stp.up ?_ | refine fun (K : AK) hK => ?_ | refine adrawG_k (by decide) ?_ | refine adrawG_e (by decide) ?_ | (refine hK _ ?_; clear hK K)) | simp only [go_sem, List.map_nil, List.length_nil] | with_reducible refine wA ?_ | clear hK K | (with_reducible refine ACallV.one (by assumption) ?_) | (with_reducible refine ACallS.one (by assumption) ?_) | (refine AIf.part (fun hb => ?_) (fun hb => ?_) <;> simp only [hb, go_sem, List.map_nil, List.length_nil]) | (refine AIf.part (fun hb => ?_) (fun hb => ?_)) | (with_reducible refine ABoth.mk ?_ ?_))
  refine awp_loopK (ι := Nat) 12 (fun i => [(11, .v (.int .i64 0)), (3, .undef)]) (fun _ => 0) (fun _ => True) 0 trivial ?_ ?_
  ·(refine wk_mk ?_ ?_ ?_ <;> simp only [frm, List.foldl_cons, List.foldl_nil, List.replicate_succ, List.replicate_zero, WkT, WkO, AV.v.injEq, Value.int.injEq, Value.bool.injEq, Value.string.injEq, AV.vec.injEq, AV.ptr.injEq, true_or, or_true, false_or, or_false, AObj.mk.injEq, forall_eq_apply_imp_iff, forall_eq, forall_eq', go_sem])
   all_goals rfl
  ·intro i hi K hK
   repeat (first | (with_reducible first | refine Stp.up ?_ | refine fun (K : AK) hK => ?_ | refine adrawG_k (by decide) ?_ | refine adrawG_e (by decide) ?_ | (refine hK _ ?_; clear hK K)) | simp only [go_sem] | with_reducible refine wA ?_ | clear hK K)
   refine AIf.part (fun h => ?_) (fun h => ?_)
   ·simp at h
   ·repeat (first | (with_reducible first | refine Stp.up ?_ | refine fun (K : AK) hK => ?_ | refine adrawG_k (by decide) ?_ | refine adrawG_e (by decide) ?_ | (refine hK _ ?_; clear hK K)) | simp only [go_sem, h] | with_reducible refine wA ?_ | clear hK K)
    exact frz_copied0 k s
 ·have C := cloneW_c A l hl h0
  refine Call1.enterS Try.func30 rfl (by kernel_rfl) (by kernel_rfl) rfl hwf (by rw [AV.wf, wf_encF1]) ?_
  simp only [Try.ntmps30, Try.results30, List.length_cons, List.length_nil, Nat.reduceAdd, Nat.reduceSub, List.replicate_succ, List.replicate_zero, List.cons_append, List.nil_append]
  repeat' (first | (with_reducible first | refine Stp.up ?_ | refine fun (K : AK) hK => ?_ | refine adrawG_k (by decide) ?_ | refine adrawG_e (by decide) ?_ | (refine hK _ ?_; clear hK K)) | simp only [go_sem] | with_reducible refine wA ?_ | clear hK K | (with_reducible refine ACallV.one (by assumption) ?_) | (with_reducible refine ACallS.one (by assumption) ?_) | (refine AIf.part (fun hb => ?_) (fun hb => ?_) <;> simp only [hb, go_sem]) | (refine AIf.part (fun hb => ?_) (fun hb => ?_)) | (with_reducible refine ABoth.mk ?_ ?_))
  refine ACallV.fr [] C (by simp) ?_ ?_ ?_ ?_ ?_
  ·simp only [go_sem, Bool.and_self]
  ·repeat (first | (with_reducible first | refine Stp.up ?_ | refine fun (K : AK) hK => ?_ | refine adrawG_k (by decide) ?_ | refine adrawG_e (by decide) ?_ | (refine hK _ ?_; clear hK K)) | simp only [go_sem] | with_reducible refine wA ?_ | clear hK K)
  ·repeat (first | (with_reducible first | refine Stp.up ?_ | refine fun (K : AK) hK => ?_ | refine adrawG_k (by decide) ?_ | refine adrawG_e (by decide) ?_ | (refine hK _ ?_; clear hK K)) | simp only [go_sem] | with_reducible refine wA ?_ | clear hK K)
  ·intro k ob hk; simp at hk
  repeat' (first | (with_reducible first | refine Stp.up ?_ | refine fun (K : AK) hK => ?_ | refine adrawG_k (by decide) ?_ | refine adrawG_e (by decide) ?_ | (refine hK _ ?_; clear hK K)) | simp only [go_sem] | with_reducible refine wA ?_ | clear hK K | (with_reducible refine ACallV.one (by assumption) ?_) | (with_reducible refine ACallS.one (by assumption) ?_) | (refine AIf.part (fun hb => ?_) (fun hb => ?_) <;> simp only [hb, go_sem]) | (refine AIf.part (fun hb => ?_) (fun hb => ?_)) | (with_reducible refine ABoth.mk ?_ ?_))
  refine awp_loopO (ι := Nat) 12 (fun i => [(11, .v (.int .i64 i)), (3, .undef)]) (fun i => [some ⟨43, 3, false, [[.v (.int .i64 k), .wit (evA A) (.v (.string s)), .vec 2 l.length]]⟩, some ⟨43, 3, false, [[.v (.int .i64 0), .v (.string ⟨#[]⟩), .v (.slice none 0 0)]]⟩, some ⟨43, 3, true, mixL (encF A) (encW A) l i⟩]) (fun i => l.length - i) (fun i => i ≤ l.length) 0 (by omega) ?_ ?_
  ·(refine wk_mk ?_ ?_ ?_ <;> simp only [frm, List.foldl_cons, List.foldl_nil, List.replicate_succ, List.replicate_zero, WkT, WkO, AV.v.injEq, Value.int.injEq, Value.bool.injEq, Value.string.injEq, AV.vec.injEq, AV.ptr.injEq, true_or, or_true, false_or, or_false, AObj.mk.injEq, forall_eq_apply_imp_iff, forall_eq, forall_eq', go_sem])
   all_goals first | exact (mixL_0 _ _ _).symm | rfl | (refine ⟨(mixL_0 _ _ _).symm, ?_⟩; exact mixL_wf (wf_encF A _ _) (wf_encW A _ _)) | skip
  ·intro i hi K hK
   repeat (first | (with_reducible first | refine Stp.up ?_ | refine fun (K : AK) hK => ?_ | refine adrawG_k (by decide) ?_ | refine adrawG_e (by decide) ?_ | (refine hK _ ?_; clear hK K)) | simp only [go_sem] | with_reducible refine wA ?_ | clear hK K)
   refine AIf.part (fun h => ?_) (fun h => ?_)
   ·have hlt : i < l.length := by (try simp only [bne_iff_ne, ne_eq, bne_eq_false_iff_eq, beq_iff_eq, beq_eq_false_iff_ne, decide_eq_true_eq, decide_eq_false_iff_not, Bool.not_eq_eq_eq_not, Int.natCast_inj, Int.ofNat_lt, Int.ofNat_le] at h); omega
    have eW := wrap_succ (k := i) (by omega)
    have eL : (mixL (encF A) (encW A) l i).length = l.length := mixL_len _ _ _ _
    have eG : (mixL (encF A) (encW A) l i).getD i [] = encW A l[i] := mixL_get _ _ _ _ hlt _
    have eS : (mixL (encF A) (encW A) l i).set i (encF A l[i]) = mixL (encF A) (encW A) l (i + 1) := mixL_set _ _ _ _ hlt
    have wP : ∀ n, wfR n (mixL (encF A) (encW A) l i) = true := fun n => mixL_wf (wf_encF A n l) (wf_encW A n l)
    have HX := H l[i] (List.getElem_mem hlt)
    rw [encF_eq] at eS
    rw [encW_eq] at eG
    rw [encW_eq, encF_eq] at HX
    generalize mixL (encF A) (encW A) l i = r at eL eG eS wP ⊢
    repeat (first | (with_reducible first | refine Stp.up ?_ | refine fun (K : AK) hK => ?_ | refine adrawG_k (by decide) ?_ | refine adrawG_e (by decide) ?_ | (refine hK _ ?_; clear hK K)) | simp only [go_sem, h] | with_reducible refine wA ?_ | clear hK K)
    refine awp_drawG [10] [] (by decide +kernel) (by kernel_rfl) ?_
    repeat (first | (with_reducible first | refine Stp.up ?_ | refine fun (K : AK) hK => ?_ | refine adrawG_k (by decide) ?_ | refine adrawG_e (by decide) ?_ | (refine hK _ ?_; clear hK K)) | simp only [go_sem, eG, eL] | with_reducible refine wA ?_ | clear hK K)
    refine ACallS.one HX ?_
    repeat (first | (with_reducible first | refine Stp.up ?_ | refine fun (K : AK) hK => ?_ | refine adrawG_k (by decide) ?_ | refine adrawG_e (by decide) ?_ | (refine hK _ ?_; clear hK K)) | simp only [go_sem, eG, eL, eW, eS] | with_reducible refine wA ?_ | clear hK K)
    exact LNext.mk (i + 1) (by omega) (by omega) (by (refine wk_mk ?_ ?_ ?_ <;> simp only [frm, List.foldl_cons, List.foldl_nil, List.replicate_succ, List.replicate_zero, WkT, WkO, AV.v.injEq, Value.int.injEq, Value.bool.injEq, Value.string.injEq, AV.vec.injEq, AV.ptr.injEq, true_or, or_true, false_or, or_false, AObj.mk.injEq, forall_eq_apply_imp_iff, forall_eq, forall_eq', go_sem]); exact mixL_wf (wf_encF A _ _) (wf_encW A _ _))
   ·have hi' : i = l.length := by (try simp only [bne_iff_ne, ne_eq, bne_eq_false_iff_eq, beq_iff_eq, beq_eq_false_iff_ne, decide_eq_true_eq, decide_eq_false_iff_not, Bool.not_eq_eq_eq_not, Int.natCast_inj, Int.ofNat_lt, Int.ofNat_le] at h); omega
    simp only [hi', mixL_all]
    repeat (first | (with_reducible first | refine Stp.up ?_ | refine fun (K : AK) hK => ?_ | refine adrawG_k (by decide) ?_ | refine adrawG_e (by decide) ?_ | (refine hK _ ?_; clear hK K)) | simp only [go_sem, h] | with_reducible refine wA ?_ | clear hK K)
    exact frz_copied k s l hl rfl
set_option maxRecDepth 100000 in
theorem copiedW_c (A : Nat → Prop) (x : Ex) (hx : x.lens 1000000) : Call1 Try.prog 30 [.agg (encW A x)] (.agg (encF A x)) := by
 induction x using Ex.ind with
 | h k s l ih =>
  have hk : ∀ y, y ∈ l → y.lens 1000000 := fun y hy z hz => hx z (by rw [exParts, exsParts_eq]; exact List.mem_cons_of_mem _ (List.mem_flatMap.2 ⟨y, hy, hz⟩))
  exact copiedW_of A k s l (hx (.mk k s l) (by rw [exParts]; exact List.mem_cons_self)) (fun y hy => ih y hy (hk y hy))
end Go.Proofs.Ytldnlbcibmmbbaa
