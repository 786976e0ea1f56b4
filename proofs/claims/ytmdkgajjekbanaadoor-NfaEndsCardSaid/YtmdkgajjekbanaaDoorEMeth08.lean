/- kinescoperef08.Nfa: Label, Follow, Takes; either with an own row. -/
import Derived.Test.YtmdkgajjekbanaaDoorENew08
set_option linter.unusedSimpArgs false
set_option linter.unusedVariables false
namespace Go.Proofs.YtmdkgajjekbanaaDoor
open Go.RowKit

theorem encS_at {l : List ByteArray} {i : Nat} (h : i < l.length) : (l.map encS).getD i [] = [.v (.string (l.getD i ⟨#[]⟩))] := by
 rw [List.getD_eq_getElem?_getD, List.getD_eq_getElem?_getD, List.getElem?_map, List.getElem?_eq_getElem h]; rfl
def rlab (l : List ByteArray) (p : Int) : ByteArray := if 1 ≤ p ∧ p ≤ l.length then l.getD (p.toNat - 1) ⟨#[]⟩ else ⟨#[]⟩
noncomputable def rfol (x : Ex) (p : Int) : List Nat := if 1 ≤ p ∧ p ≤ (labE x).length then setN (labE x).length (folB x 0 (p.toNat - 1)) else []
set_option maxRecDepth 100000 in
set_option maxHeartbeats 4000000 in
theorem rLabel_c (x : Ex) (p : Int) (hn : (labE x).length ≤ 1000) : Call1 Tryd.prog 19 [.vp (refV x), .v (.int .i64 p)] (.v (.string (rlab (labE x) p))) := by
 have hw := wf_refV 0 x
 simp only [refV] at hw ⊢
 (refine Call1.enter Tryd.func19 rfl (by kernel_rfl) (by kernel_rfl) rfl (by simp only [go_sem, wfL, AV.wf, Bool.and_self, Bool.and_true, Bool.true_and, hw]) (by simp only [go_sem, wfL, AV.wf, wf_encS, Bool.and_self, Bool.and_true, Bool.true_and, hw]) ?_; simp only [Tryd.ntmps19, Tryd.results19, List.length_cons, List.length_nil, Nat.reduceAdd, Nat.reduceSub, List.replicate_succ, List.replicate_zero, List.cons_append, List.nil_append])
 by_cases h1 : p < 1
 ·have g1 : decide (p < 1) = true := decide_eq_true h1
  rw [rlab, if_neg (by omega)]
  repeat (first | (with_reducible first | refine Stp.up ?_ | refine fun (K : AK) hK => ?_ | (refine hK _ ?_; clear hK K)) | simp only [go_sem, g1, Go.undef] | with_reducible refine wA ?_ | clear hK K)
 ·have g1 : decide (p < 1) = false := decide_eq_false h1
  by_cases h2 : ((labE x).length : Int) < p
  ·have g2 : decide (((labE x).length : Int) < p) = true := decide_eq_true h2
   rw [rlab, if_neg (by omega)]
   repeat (first | (with_reducible first | refine Stp.up ?_ | refine fun (K : AK) hK => ?_ | (refine hK _ ?_; clear hK K)) | simp only [go_sem, g1, g2, Go.undef] | with_reducible refine wA ?_ | clear hK K)
  ·have g2 : decide (((labE x).length : Int) < p) = false := decide_eq_false h2
   rw [rlab, if_pos ⟨by omega, by omega⟩]
   obtain ⟨j, rfl⟩ : ∃ j : Nat, p = (j : Int) + 1 := ⟨(p - 1).toNat, by omega⟩
   have eW : IntKind.i64.wrap ((j : Int) + 1 - 1) = (j : Int) := by rw [wrap_id (by omega) (by omega)]; omega
   have eG := encS_at (l := labE x) (i := j) (by omega)
   have eT : ((j : Int) + 1).toNat - 1 = j := by omega
   rw [eT]
   repeat (first | (with_reducible first | refine Stp.up ?_ | refine fun (K : AK) hK => ?_ | (refine hK _ ?_; clear hK K)) | simp only [go_sem, g1, g2, eW, eG, Go.undef] | with_reducible refine wA ?_ | clear hK K)
set_option maxRecDepth 100000 in
set_option maxHeartbeats 4000000 in
theorem rFollow_c (x : Ex) (p : Int) (hn : (labE x).length ≤ 1000) : Call1 Tryd.prog 22 [.vp (refV x), .v (.int .i64 p)] (.slc 1 (encN (rfol x p)) (rfol x p).length) := by
 have hw := wf_refV 0 x
 have hm : wfR 0 (encN (rfol x p)) = true := wfR_map _ (fun _ => rfl) _
 have S := fun g => set08_c (labE x).length g hn
 simp only [refV] at hw ⊢
 by_cases h1 : p < 1
 ·have g1 : decide (p < 1) = true := decide_eq_true h1
  rw [rfol, if_neg (by omega)]
  refine CallN.to1 ?_
  (refine CallN.enter Tryd.func22 rfl (by kernel_rfl) (by kernel_rfl) rfl (by simp only [go_sem, wfL, AV.wf, Bool.and_self, Bool.and_true, Bool.true_and, hw, encN, List.map_nil, wfR]) (by simp only [go_sem, wfL, AV.wf, wf_encS, Bool.and_self, Bool.and_true, Bool.true_and, hw, encN, List.map_nil, wfR]) ?_; simp only [Tryd.ntmps22, Tryd.results22, List.length_cons, List.length_nil, Nat.reduceAdd, Nat.reduceSub, List.replicate_succ, List.replicate_zero, List.cons_append, List.nil_append])
  repeat (first | (with_reducible first | refine Stp.up ?_ | refine fun (K : AK) hK => ?_ | (refine hK _ ?_; clear hK K)) | simp only [go_sem, g1, Go.undef] | with_reducible refine wA ?_ | clear hK K)
  exact AFzN.nil 1
 ·have g1 : decide (p < 1) = false := decide_eq_false h1
  by_cases h2 : ((labE x).length : Int) < p
  ·have g2 : decide (((labE x).length : Int) < p) = true := decide_eq_true h2
   rw [rfol, if_neg (by omega)]
   refine CallN.to1 ?_
   (refine CallN.enter Tryd.func22 rfl (by kernel_rfl) (by kernel_rfl) rfl (by simp only [go_sem, wfL, AV.wf, Bool.and_self, Bool.and_true, Bool.true_and, hw, encN, List.map_nil, wfR]) (by simp only [go_sem, wfL, AV.wf, wf_encS, Bool.and_self, Bool.and_true, Bool.true_and, hw, encN, List.map_nil, wfR]) ?_; simp only [Tryd.ntmps22, Tryd.results22, List.length_cons, List.length_nil, Nat.reduceAdd, Nat.reduceSub, List.replicate_succ, List.replicate_zero, List.cons_append, List.nil_append])
   repeat (first | (with_reducible first | refine Stp.up ?_ | refine fun (K : AK) hK => ?_ | (refine hK _ ?_; clear hK K)) | simp only [go_sem, g1, g2, Go.undef] | with_reducible refine wA ?_ | clear hK K)
   exact AFzN.nil 1
  ·have g2 : decide (((labE x).length : Int) < p) = false := decide_eq_false h2
   have hv := hm
   rw [rfol, if_pos ⟨by omega, by omega⟩] at hv ⊢
   (refine Call1.enter Tryd.func22 rfl (by kernel_rfl) (by kernel_rfl) rfl (by simp only [go_sem, wfL, AV.wf, Bool.and_self, Bool.and_true, Bool.true_and, hw, hv]) (by simp only [go_sem, wfL, AV.wf, wf_encS, Bool.and_self, Bool.and_true, Bool.true_and, hw, hv]) ?_; simp only [Tryd.ntmps22, Tryd.results22, List.length_cons, List.length_nil, Nat.reduceAdd, Nat.reduceSub, List.replicate_succ, List.replicate_zero, List.cons_append, List.nil_append])
   obtain ⟨j, rfl⟩ : ∃ j : Nat, p = (j : Int) + 1 := ⟨(p - 1).toNat, by omega⟩
   have eW : IntKind.i64.wrap ((j : Int) + 1 - 1) = (j : Int) := by rw [wrap_id (by omega) (by omega)]; omega
   have eG := mxB_at (N := (labE x).length) (f := folB x 0) (i := j) (by omega)
   have eT : ((j : Int) + 1).toNat - 1 = j := by omega
   rw [eT]
   repeat (first | (with_reducible first | refine Stp.up ?_ | refine fun (K : AK) hK => ?_ | (refine hK _ ?_; clear hK K)) | simp only [go_sem, g1, g2, eW, eG, Go.undef] | with_reducible refine wA ?_ | clear hK K)
   refine ACallV.one (S _) ?_
   repeat (first | (with_reducible first | refine Stp.up ?_ | refine fun (K : AK) hK => ?_ | (refine hK _ ?_; clear hK K)) | simp only [go_sem] | with_reducible refine wA ?_ | clear hK K)
   all_goals first | (refine AFz.of 40 rfl ?_; simp only [go_sem]) | skip
set_option maxRecDepth 100000 in
set_option maxHeartbeats 4000000 in
theorem rTakes_c (x : Ex) (w : List ByteArray) (hw : w.length ≤ 1000) (h1 : (exParts x).length ≤ 1000000) (hz : ∀ z, z ∈ exParts x → z.kids.length ≤ 1000000 ∧ z.label.size ≤ 1000000000000000) : Call1 Tryd.prog 30 [.vp (refV x), strsA w] (.v (.bool (exTakes x w))) := by
 have hv := wf_refV 0 x
 have T := takes07_c x w (by omega) h1 hz
 simp only [strsA, encE_eq] at T ⊢
 have hq : wfR 0 (w.map encS) = true := wf_encS 0 _
 simp only [refV] at hv ⊢
 (refine Call1.enter Tryd.func30 rfl (by kernel_rfl) (by kernel_rfl) rfl (by simp only [go_sem, wfL, AV.wf, Bool.and_self, Bool.and_true, Bool.true_and, hv, hq]) (by simp only [go_sem, wfL, AV.wf, wf_encS, Bool.and_self, Bool.and_true, Bool.true_and, hv, hq]) ?_; simp only [Tryd.ntmps30, Tryd.results30, List.length_cons, List.length_nil, Nat.reduceAdd, Nat.reduceSub, List.replicate_succ, List.replicate_zero, List.cons_append, List.nil_append])
 repeat (first | (with_reducible first | refine Stp.up ?_ | refine fun (K : AK) hK => ?_ | (refine hK _ ?_; clear hK K)) | simp only [go_sem] | clear hK K)
 refine ACallV.one T ?_
 repeat (first | (with_reducible first | refine Stp.up ?_ | refine fun (K : AK) hK => ?_ | (refine hK _ ?_; clear hK K)) | simp only [go_sem] | clear hK K)
set_option maxRecDepth 100000 in
set_option maxHeartbeats 4000000 in
theorem either08_e (N : Nat) (a b : Nat → Bool) (hn : N ≤ 1000) : CallE Tryd.prog 55 [.vec 0 N, .slc 1 (rwB N b) N] [some ⟨4, 1, true, rwB N a⟩] (.vec 1 N) [some ⟨4, 1, true, rwB N a⟩, some ⟨4, 1, true, rwB N (fun q => a q || b q)⟩] := by
 (refine CallE.enter Tryd.func55 rfl (by kernel_rfl) (by kernel_rfl) rfl ?_; simp only [Tryd.ntmps55, Tryd.results55, List.length_cons, List.length_nil, Nat.reduceAdd, Nat.reduceSub, List.replicate_succ, List.replicate_zero, List.cons_append, List.nil_append])
 have e0 : List.replicate N [AV.v (.bool false)] = rwB N (eiAt a b 0) := by rw [rwB_false]; exact rwB_eq fun q _ => by simp [eiAt]
 repeat (first | (with_reducible first | refine Stp.up ?_ | refine fun (K : AK) hK => ?_ | (refine hK _ ?_; clear hK K)) | simp only [go_sem, e0] | with_reducible refine wA ?_ | clear hK K)
 refine awp_loopO (ι := Nat) 10 (fun i => [(6, .v (.int .i64 i))]) (fun i => [some ⟨4, 1, true, rwB N a⟩, some ⟨4, 1, true, rwB N (eiAt a b i)⟩]) (fun i => N - i) (fun i => i ≤ N) 0 (by omega) ?_ ?_
 ·(refine wk_mk ?_ ?_ ?_ <;> simp only [frm, List.foldl_cons, List.foldl_nil, List.replicate_succ, List.replicate_zero, WkT, WkO, AV.v.injEq, Value.int.injEq, Value.bool.injEq, Value.string.injEq, AV.vec.injEq, AV.ptr.injEq, true_or, or_true, false_or, or_false, AObj.mk.injEq, forall_eq_apply_imp_iff, forall_eq, forall_eq', go_sem])
  rfl
 ·intro i hi K hK
  repeat (first | (with_reducible first | refine Stp.up ?_ | refine fun (K : AK) hK => ?_ | (refine hK _ ?_; clear hK K)) | simp only [go_sem] | with_reducible refine wA ?_ | clear hK K)
  refine AIf.part (fun h => ?_) (fun h => ?_)
  ·have hlt : i < N := by (try simp only [bne_iff_ne, ne_eq, bne_eq_false_iff_eq, beq_iff_eq, beq_eq_false_iff_ne, decide_eq_true_eq, decide_eq_false_iff_not, Bool.not_eq_eq_eq_not, Int.natCast_inj, Int.ofNat_lt, Int.ofNat_le] at h); omega
   have eW := wrap_succ (k := i) (by omega)
   have eA := rwB_at (g := a) hlt
   have eB := rwB_at (g := b) hlt
   have eR := rwB_at (g := eiAt a b i) hlt
   have eS := fun v => rwB_set (N := N) (j := i) (g := eiAt a b i) (v := v)
   have eU := eiAt_succ a b i
   cases ha : a i
   all_goals
    simp only [ha, Bool.false_or, Bool.true_or] at eU
    repeat (first | (with_reducible first | refine Stp.up ?_ | refine fun (K : AK) hK => ?_ | (refine hK _ ?_; clear hK K)) | simp only [go_sem, eW, eA, eB, ha, eR, eS, eU, Go.undef] | with_reducible refine wA ?_ | clear hK K)
    exact LNext.mk (i + 1) (by omega) (by omega) (by (refine wk_mk ?_ ?_ ?_ <;> simp only [frm, List.foldl_cons, List.foldl_nil, List.replicate_succ, List.replicate_zero, WkT, WkO, AV.v.injEq, Value.int.injEq, Value.bool.injEq, Value.string.injEq, AV.vec.injEq, AV.ptr.injEq, true_or, or_true, false_or, or_false, AObj.mk.injEq, forall_eq_apply_imp_iff, forall_eq, forall_eq', go_sem]))
  ·have e1 : i = N := by (try simp only [bne_iff_ne, ne_eq, bne_eq_false_iff_eq, beq_iff_eq, beq_eq_false_iff_ne, decide_eq_true_eq, decide_eq_false_iff_not, Bool.not_eq_eq_eq_not, Int.natCast_inj, Int.ofNat_lt, Int.ofNat_le] at h); omega
   have eE : rwB N (eiAt a b N) = rwB N (fun q => a q || b q) := rwB_eq fun q hq => by simp [eiAt, hq]
   simp only [e1]
   repeat (first | (with_reducible first | refine Stp.up ?_ | refine fun (K : AK) hK => ?_ | (refine hK _ ?_; clear hK K)) | simp only [go_sem] | with_reducible refine wA ?_ | clear hK K)
   rw [eE]
   (refine ⟨?_, ?_, ?_⟩ <;> simp only [WkT, WkO, AV.v.injEq, Value.int.injEq, Value.bool.injEq, Value.string.injEq, AV.vec.injEq, AV.ptr.injEq, true_or, or_true, false_or, or_false, AObj.mk.injEq, forall_eq_apply_imp_iff, forall_eq, forall_eq', go_sem])
   all_goals first | exact wf_rwB _ _ _ | exact ⟨wf_rwB _ _ _, wf_rwB _ _ _⟩ | skip
end Go.Proofs.YtmdkgajjekbanaaDoor
