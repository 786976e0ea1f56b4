/- The statements' kit: what is lent, a query: the walks. Printed by gen_lent.py. -/
import Derived.Test.YtldnlbcibmmbbaaRLent
set_option linter.unusedSimpArgs false
set_option linter.unusedVariables false
namespace Go.Proofs.Ytldnlbcibmmbbaa
open Go.RowKit

def markP (i : Nat) : List AV := [.v (.string ⟨#[]⟩), .v (.string ⟨#[]⟩), .v (.bool false), .v (.string ⟨#[109]⟩), .v (.string ⟨#[]⟩), mk1 i, .v (.string ⟨#[]⟩), .v (.slice none 0 0)]
def markC (i : Nat) : List AV := [mk1 i, .v (.int .i64 0), .v (.string ⟨#[]⟩), .v (.string ⟨#[]⟩), .v (.int .i64 0), .v (.int .i64 0), .v (.string ⟨#[]⟩), .v (.int .i64 0), .v (.string ⟨#[]⟩), .v (.string ⟨#[]⟩), .v (.int .i64 0), .v (.int .i64 0), .v (.string ⟨#[]⟩)]
def markO (i : Nat) : List AV := [.v (.int .i64 0), .v (.string ⟨#[]⟩), .v (.string ⟨#[]⟩), .v (.int .i64 0), mk1 i, .v (.string ⟨#[]⟩)]
def lentP (p : Pat) : List AV := [.v (.string p.frm), .v (.string p.to), .v (.bool p.path), .v (.string p.label), .v (.string p.name), .v (.int .i64 p.expr.kind), .v (.string p.expr.label), .slc 3 (p.expr.kids.map lentE ++ marksOf markE) p.expr.kids.length]
def lentQ (q : Qry) : List AV := [.slc 8 (q.pats.map lentP ++ marksOf markP) q.pats.length, .slc 13 (q.conds.map encC ++ marksOf markC) q.conds.length, .slc 6 (q.ret.map encO ++ marksOf markO) q.ret.length, .v (.int .i64 q.range), .v (.int .i64 q.slide)]
theorem wf_lentP1 (n : Nat) (p : Pat) : wfL n (lentP p) = true := by simp only [lentP, wfL, AV.wf, wfR_app, wf_lentE, wf_marksE, Bool.and_true, Bool.and_self]
@[go_sem] theorem wf_lentP (n : Nat) (l : List Pat) : wfR n (l.map lentP) = true := wfR_map _ (wf_lentP1 n) l
@[go_sem] theorem wf_mksP (n k : Nat) : wfR n (mksN markP k) = true := wf_mksN n _ (fun _ => rfl) k
@[go_sem] theorem wf_marksP (n : Nat) : wfR n (marksOf markP) = true := wf_mksN n _ (fun _ => rfl) 12
@[go_sem] theorem wf_mksC (n k : Nat) : wfR n (mksN markC k) = true := wf_mksN n _ (fun _ => rfl) k
@[go_sem] theorem wf_marksC (n : Nat) : wfR n (marksOf markC) = true := wf_mksN n _ (fun _ => rfl) 12
@[go_sem] theorem wf_mksO (n k : Nat) : wfR n (mksN markO k) = true := wf_mksN n _ (fun _ => rfl) k
@[go_sem] theorem wf_marksO (n : Nat) : wfR n (marksOf markO) = true := wf_mksN n _ (fun _ => rfl) 12
set_option maxRecDepth 100000 in
theorem markP_c (i : Nat) (hi : i < 1000) : Call1 Try.prog 54 [.v (.int .i64 1), .v (.int .i64 i)] (.agg (markP i)) := by
 have M := mark_c i hi
 simp only [mk1] at M
 simp only [markP, mk1]
 (refine Call1.enter Try.func54 rfl (by kernel_rfl) (by kernel_rfl) rfl (by first | rfl | (simp only [go_sem, Bool.and_self, Bool.and_true, Bool.true_and])) (by first | rfl | (simp only [go_sem, Bool.and_self, Bool.and_true, Bool.true_and])) ?_; simp only [Try.ntmps54, Try.results54, List.length_cons, List.length_nil, Nat.reduceAdd, Nat.reduceSub, List.replicate_succ, List.replicate_zero, List.cons_append, List.nil_append])
 repeat (first | (with_reducible first | refine Stp.up ?_ | refine fun (K : AK) hK => ?_ | (refine hK _ ?_; clear hK K)) | simp only [go_sem] | clear hK K)
 refine ACallV.one M ?_
 repeat (first | (with_reducible first | refine Stp.up ?_ | refine fun (K : AK) hK => ?_ | (refine hK _ ?_; clear hK K)) | simp only [go_sem] | clear hK K)
 (refine AFz.of 40 rfl ?_; simp only [go_sem])
set_option maxRecDepth 100000 in
theorem markC_c (i : Nat) (hi : i < 1000) : Call1 Try.prog 55 [.v (.int .i64 1), .v (.int .i64 i)] (.agg (markC i)) := by
 have M := mark_c i hi
 simp only [mk1] at M
 simp only [markC, mk1]
 (refine Call1.enter Try.func55 rfl (by kernel_rfl) (by kernel_rfl) rfl (by first | rfl | (simp only [go_sem, Bool.and_self, Bool.and_true, Bool.true_and])) (by first | rfl | (simp only [go_sem, Bool.and_self, Bool.and_true, Bool.true_and])) ?_; simp only [Try.ntmps55, Try.results55, List.length_cons, List.length_nil, Nat.reduceAdd, Nat.reduceSub, List.replicate_succ, List.replicate_zero, List.cons_append, List.nil_append])
 repeat (first | (with_reducible first | refine Stp.up ?_ | refine fun (K : AK) hK => ?_ | (refine hK _ ?_; clear hK K)) | simp only [go_sem] | clear hK K)
 refine ACallV.one M ?_
 repeat (first | (with_reducible first | refine Stp.up ?_ | refine fun (K : AK) hK => ?_ | (refine hK _ ?_; clear hK K)) | simp only [go_sem] | clear hK K)
 (refine AFz.of 40 rfl ?_; simp only [go_sem])
set_option maxRecDepth 100000 in
theorem markO_c (i : Nat) (hi : i < 1000) : Call1 Try.prog 56 [.v (.int .i64 1), .v (.int .i64 i)] (.agg (markO i)) := by
 have M := mark_c i hi
 simp only [mk1] at M
 simp only [markO, mk1]
 (refine Call1.enter Try.func56 rfl (by kernel_rfl) (by kernel_rfl) rfl (by first | rfl | (simp only [go_sem, Bool.and_self, Bool.and_true, Bool.true_and])) (by first | rfl | (simp only [go_sem, Bool.and_self, Bool.and_true, Bool.true_and])) ?_; simp only [Try.ntmps56, Try.results56, List.length_cons, List.length_nil, Nat.reduceAdd, Nat.reduceSub, List.replicate_succ, List.replicate_zero, List.cons_append, List.nil_append])
 repeat (first | (with_reducible first | refine Stp.up ?_ | refine fun (K : AK) hK => ?_ | (refine hK _ ?_; clear hK K)) | simp only [go_sem] | clear hK K)
 refine ACallV.one M ?_
 repeat (first | (with_reducible first | refine Stp.up ?_ | refine fun (K : AK) hK => ?_ | (refine hK _ ?_; clear hK K)) | simp only [go_sem] | clear hK K)
 (refine AFz.of 40 rfl ?_; simp only [go_sem])
set_option maxRecDepth 100000 in
theorem lentPattern_c (p : Pat) (hx : p.expr.lens 1000000) : Call1 Try.prog 53 [.agg (encP p)] (.agg (lentP p)) := by
 have C := lentExpr_c p.expr hx
 simp only [encE_eq, lentE_eq] at C
 simp only [encP, lentP]
 (refine Call1.enter Try.func53 rfl (by kernel_rfl) (by kernel_rfl) rfl (by first | rfl | (simp only [go_sem, Bool.and_self, Bool.and_true, Bool.true_and])) (by first | rfl | (simp only [go_sem, Bool.and_self, Bool.and_true, Bool.true_and])) ?_; simp only [Try.ntmps53, Try.results53, List.length_cons, List.length_nil, Nat.reduceAdd, Nat.reduceSub, List.replicate_succ, List.replicate_zero, List.cons_append, List.nil_append])
 repeat (first | (with_reducible first | refine Stp.up ?_ | refine fun (K : AK) hK => ?_ | (refine hK _ ?_; clear hK K)) | simp only [go_sem] | clear hK K)
 refine ACallV.one C ?_
 repeat (first | (with_reducible first | refine Stp.up ?_ | refine fun (K : AK) hK => ?_ | (refine hK _ ?_; clear hK K)) | simp only [go_sem] | clear hK K)
 (refine AFz.of 40 rfl ?_; simp only [go_sem])
theorem wrap12 {n : Nat} (h : n ≤ 1000000) : IntKind.i64.wrap ((n : Int) + 12) = ((n + 12 : Nat) : Int) := by rw [wrap_id (by omega) (by omega)]; omega
set_option maxRecDepth 100000 in
set_option maxHeartbeats 2000000 in
theorem lentPatterns_c (l : List Pat) (hl : l.length ≤ 1000000) (hx : ∀ p, p ∈ l → p.expr.lens 1000000) :
  Call1 Try.prog 21 [.slc 8 (l.map encP) l.length] (.slc 8 (l.map lentP ++ marksOf markP) l.length) := by
 have e1 : IntKind.i64.wrap ((l.length : Int) + 12) = ((l.length + 12 : Nat) : Int) := wrap12 hl
 (refine Call1.enter Try.func21 rfl (by kernel_rfl) (by kernel_rfl) rfl (by first | rfl | (simp only [go_sem, Bool.and_self, Bool.and_true, Bool.true_and])) (by first | rfl | (simp only [go_sem, Bool.and_self, Bool.and_true, Bool.true_and])) ?_; simp only [Try.ntmps21, Try.results21, List.length_cons, List.length_nil, Nat.reduceAdd, Nat.reduceSub, List.replicate_succ, List.replicate_zero, List.cons_append, List.nil_append])
 repeat (first | (with_reducible first | refine Stp.up ?_ | refine fun (K : AK) hK => ?_ | (refine hK _ ?_; clear hK K)) | simp only [go_sem, e1] | with_reducible refine wA ?_ | clear hK K)
 refine awp_loopF (ι := Nat) (fun k => [(0, .slc 8 (l.map encP) l.length), (2, .v (.slice none 0 0)), (3, .vec 0 k), (4, .v (.int .i64 k))]) (fun k => [some ⟨45, 8, true, (l.take k).map lentP⟩]) (fun k => l.length - k) (fun k => k ≤ l.length) 0 (by omega) ?_ ?_
 ·(refine wk_mk ?_ ?_ ?_ <;> simp only [frm, List.foldl_cons, List.foldl_nil, List.replicate_succ, List.replicate_zero, WkT, WkO, AV.v.injEq, Value.int.injEq, Value.bool.injEq, Value.string.injEq, AV.vec.injEq, AV.ptr.injEq, true_or, or_true, false_or, or_false, AObj.mk.injEq, forall_eq_apply_imp_iff, forall_eq, forall_eq', go_sem])
  rfl
 ·intro k hk K hK
  simp only [frm, List.foldl_cons, List.foldl_nil, List.replicate_succ, List.replicate_zero, go_sem]
  repeat (first | (with_reducible first | refine Stp.up ?_ | refine fun (K : AK) hK => ?_ | (refine hK _ ?_; clear hK K)) | simp only [go_sem] | with_reducible refine wA ?_ | clear hK K)
  refine AIf.part (fun h => ?_) (fun h => ?_)
  ·have hlt : k < l.length := by (try simp only [bne_iff_ne, ne_eq, bne_eq_false_iff_eq, beq_iff_eq, beq_eq_false_iff_ne, decide_eq_true_eq, decide_eq_false_iff_not, Bool.not_eq_eq_eq_not, Int.natCast_inj, Int.ofNat_lt, Int.ofNat_le] at h); omega
   have eG := getD_map encP l k [] hlt
   have eW := wrap_succ (k := k) (by omega)
   have HX := lentPattern_c l[k] (hx _ (List.getElem_mem hlt))
   have eT : (l.take (k + 1)).map lentP = (l.take k).map lentP ++ [lentP l[k]] := take_map_succ lentP l k hlt
   simp only [encP, lentP] at HX eG eT
   repeat (first | (with_reducible first | refine Stp.up ?_ | refine fun (K : AK) hK => ?_ | (refine hK _ ?_; clear hK K)) | simp only [go_sem, eG, eW, encP] | with_reducible refine wA ?_ | clear hK K)
   refine ACallV.one HX ?_
   have eL : (l.take k).length = k := by rw [List.length_take]; omega
   repeat (first | (with_reducible first | refine Stp.up ?_ | refine fun (K : AK) hK => ?_ | (refine hK _ ?_; clear hK K)) | simp only [go_sem, eW, eL] | with_reducible refine wA ?_ | clear hK K)
   exact LNext.mk (k + 1) (by omega) (by omega) (by (refine wk_mk ?_ ?_ ?_ <;> simp only [frm, List.foldl_cons, List.foldl_nil, List.replicate_succ, List.replicate_zero, WkT, WkO, AV.v.injEq, Value.int.injEq, Value.bool.injEq, Value.string.injEq, AV.vec.injEq, AV.ptr.injEq, true_or, or_true, false_or, or_false, AObj.mk.injEq, forall_eq_apply_imp_iff, forall_eq, forall_eq', go_sem]); exact eT.symm)
  ·have hkl : k = l.length := by (try simp only [bne_iff_ne, ne_eq, bne_eq_false_iff_eq, beq_iff_eq, beq_eq_false_iff_ne, decide_eq_true_eq, decide_eq_false_iff_not, Bool.not_eq_eq_eq_not, Int.natCast_inj, Int.ofNat_lt, Int.ofNat_le] at h); omega
   have eA : List.map lentP (List.take k l) = l.map lentP := by rw [hkl, List.take_length]
   repeat (first | (with_reducible first | refine Stp.up ?_ | refine fun (K : AK) hK => ?_ | (refine hK _ ?_; clear hK K)) | simp only [go_sem, eA] | with_reducible refine wA ?_ | clear hK K)
   refine awp_loopF (ι := Nat) (fun i => [(0, .slc 8 (l.map encP) l.length), (2, .v (.slice none 0 0)), (3, .vec 0 (l.length + i)), (6, .v (.int .i64 i))]) (fun i => [some ⟨45, 8, true, l.map lentP ++ mksN markP i⟩]) (fun i => 12 - i) (fun i => i ≤ 12) 0 (by omega) ?_ ?_
   ·(refine wk_mk ?_ ?_ ?_ <;> simp only [frm, List.foldl_cons, List.foldl_nil, List.replicate_succ, List.replicate_zero, WkT, WkO, AV.v.injEq, Value.int.injEq, Value.bool.injEq, Value.string.injEq, AV.vec.injEq, AV.ptr.injEq, true_or, or_true, false_or, or_false, AObj.mk.injEq, forall_eq_apply_imp_iff, forall_eq, forall_eq', go_sem])
    ·exact ⟨hkl, rfl⟩
    ·simp [mksN]
   ·intro i hi K hK
    simp only [frm, List.foldl_cons, List.foldl_nil, List.replicate_succ, List.replicate_zero, go_sem]
    repeat (first | (with_reducible first | refine Stp.up ?_ | refine fun (K : AK) hK => ?_ | (refine hK _ ?_; clear hK K)) | simp only [go_sem] | with_reducible refine wA ?_ | clear hK K)
    refine AIf.part (fun h2 => ?_) (fun h2 => ?_)
    ·have hlt : i < 12 := by (try simp only [bne_iff_ne, ne_eq, bne_eq_false_iff_eq, beq_iff_eq, beq_eq_false_iff_ne, decide_eq_true_eq, decide_eq_false_iff_not, Bool.not_eq_eq_eq_not, Int.natCast_inj, Int.ofNat_lt, Int.ofNat_le] at h2); omega
     have eW := wrap_succ (k := i) (by omega)
     have M := markP_c i (by omega)
     simp only [markP, mk1] at M
     repeat (first | (with_reducible first | refine Stp.up ?_ | refine fun (K : AK) hK => ?_ | (refine hK _ ?_; clear hK K)) | simp only [go_sem, eW] | with_reducible refine wA ?_ | clear hK K)
     refine ACallV.one M ?_
     repeat (first | (with_reducible first | refine Stp.up ?_ | refine fun (K : AK) hK => ?_ | (refine hK _ ?_; clear hK K)) | simp only [go_sem, eW] | with_reducible refine wA ?_ | clear hK K)
     exact LNext.mk (i + 1) (by omega) (by omega) (by (refine wk_mk ?_ ?_ ?_ <;> simp only [frm, List.foldl_cons, List.foldl_nil, List.replicate_succ, List.replicate_zero, WkT, WkO, AV.v.injEq, Value.int.injEq, Value.bool.injEq, Value.string.injEq, AV.vec.injEq, AV.ptr.injEq, true_or, or_true, false_or, or_false, AObj.mk.injEq, forall_eq_apply_imp_iff, forall_eq, forall_eq', go_sem]) <;> rfl)
    ·have h12 : i = 12 := by (try simp only [bne_iff_ne, ne_eq, bne_eq_false_iff_eq, beq_iff_eq, beq_eq_false_iff_ne, decide_eq_true_eq, decide_eq_false_iff_not, Bool.not_eq_eq_eq_not, Int.natCast_inj, Int.ofNat_lt, Int.ofNat_le] at h2); omega
     have eM : mksN markP i = marksOf markP := by rw [h12]; rfl
     repeat (first | (with_reducible first | refine Stp.up ?_ | refine fun (K : AK) hK => ?_ | (refine hK _ ?_; clear hK K)) | simp only [go_sem, eM] | with_reducible refine wA ?_ | clear hK K)
     exact AFz.slc (by simp only [wfR_app, wf_lentP, wf_marksP, Bool.and_self])
set_option maxRecDepth 100000 in
set_option maxHeartbeats 2000000 in
theorem lentC_c (l : List Cnd) (hl : l.length ≤ 1000000) :
  Call1 Try.prog 22 [.slc 13 (l.map encC) l.length] (.slc 13 (l.map encC ++ marksOf markC) l.length) := by
 have e1 : IntKind.i64.wrap ((l.length : Int) + 12) = ((l.length + 12 : Nat) : Int) := wrap12 hl
 have eT : List.take l.length (l.map encC) = l.map encC := by rw [List.take_of_length_le (by simp)]
 (refine Call1.enter Try.func22 rfl (by kernel_rfl) (by kernel_rfl) rfl (by first | rfl | (simp only [go_sem, Bool.and_self, Bool.and_true, Bool.true_and])) (by first | rfl | (simp only [go_sem, Bool.and_self, Bool.and_true, Bool.true_and])) ?_; simp only [Try.ntmps22, Try.results22, List.length_cons, List.length_nil, Nat.reduceAdd, Nat.reduceSub, List.replicate_succ, List.replicate_zero, List.cons_append, List.nil_append])
 repeat (first | (with_reducible first | refine Stp.up ?_ | refine fun (K : AK) hK => ?_ | (refine hK _ ?_; clear hK K)) | simp only [go_sem, e1, eT] | with_reducible refine wA ?_ | clear hK K)
 refine awp_loopF (ι := Nat) (fun i => [(0, .slc 13 (l.map encC) l.length), (2, .v (.slice none 0 0)), (3, .vec 0 (l.length + i)), (4, .v (.int .i64 i))]) (fun i => [some ⟨71, 13, true, l.map encC ++ mksN markC i⟩]) (fun i => 12 - i) (fun i => i ≤ 12) 0 (by omega) ?_ ?_
 ·(refine wk_mk ?_ ?_ ?_ <;> simp only [frm, List.foldl_cons, List.foldl_nil, List.replicate_succ, List.replicate_zero, WkT, WkO, AV.v.injEq, Value.int.injEq, Value.bool.injEq, Value.string.injEq, AV.vec.injEq, AV.ptr.injEq, true_or, or_true, false_or, or_false, AObj.mk.injEq, forall_eq_apply_imp_iff, forall_eq, forall_eq', go_sem])
  ·exact ⟨rfl, rfl⟩
  ·simp [mksN]
 ·intro i hi K hK
  simp only [frm, List.foldl_cons, List.foldl_nil, List.replicate_succ, List.replicate_zero, go_sem]
  repeat (first | (with_reducible first | refine Stp.up ?_ | refine fun (K : AK) hK => ?_ | (refine hK _ ?_; clear hK K)) | simp only [go_sem] | with_reducible refine wA ?_ | clear hK K)
  refine AIf.part (fun h2 => ?_) (fun h2 => ?_)
  ·have hlt : i < 12 := by (try simp only [decide_eq_true_eq, decide_eq_false_iff_not] at h2); omega
   have eW := wrap_succ (k := i) (by omega)
   have M := markC_c i (by omega)
   simp only [markC, mk1] at M
   repeat (first | (with_reducible first | refine Stp.up ?_ | refine fun (K : AK) hK => ?_ | (refine hK _ ?_; clear hK K)) | simp only [go_sem, eW] | with_reducible refine wA ?_ | clear hK K)
   refine ACallV.one M ?_
   repeat (first | (with_reducible first | refine Stp.up ?_ | refine fun (K : AK) hK => ?_ | (refine hK _ ?_; clear hK K)) | simp only [go_sem, eW] | with_reducible refine wA ?_ | clear hK K)
   exact LNext.mk (i + 1) (by omega) (by omega) (by (refine wk_mk ?_ ?_ ?_ <;> simp only [frm, List.foldl_cons, List.foldl_nil, List.replicate_succ, List.replicate_zero, WkT, WkO, AV.v.injEq, Value.int.injEq, Value.bool.injEq, Value.string.injEq, AV.vec.injEq, AV.ptr.injEq, true_or, or_true, false_or, or_false, AObj.mk.injEq, forall_eq_apply_imp_iff, forall_eq, forall_eq', go_sem]) <;> rfl)
  ·have h12 : i = 12 := by (try simp only [decide_eq_true_eq, decide_eq_false_iff_not] at h2); omega
   have eM : mksN markC i = marksOf markC := by rw [h12]; rfl
   repeat (first | (with_reducible first | refine Stp.up ?_ | refine fun (K : AK) hK => ?_ | (refine hK _ ?_; clear hK K)) | simp only [go_sem, eM] | with_reducible refine wA ?_ | clear hK K)
   exact AFz.slc (by simp only [wfR_app, wf_encC, wf_marksC, Bool.and_self])
set_option maxRecDepth 100000 in
set_option maxHeartbeats 2000000 in
theorem lentO_c (l : List Opd) (hl : l.length ≤ 1000000) :
  Call1 Try.prog 23 [.slc 6 (l.map encO) l.length] (.slc 6 (l.map encO ++ marksOf markO) l.length) := by
 have e1 : IntKind.i64.wrap ((l.length : Int) + 12) = ((l.length + 12 : Nat) : Int) := wrap12 hl
 have eT : List.take l.length (l.map encO) = l.map encO := by rw [List.take_of_length_le (by simp)]
 (refine Call1.enter Try.func23 rfl (by kernel_rfl) (by kernel_rfl) rfl (by first | rfl | (simp only [go_sem, Bool.and_self, Bool.and_true, Bool.true_and])) (by first | rfl | (simp only [go_sem, Bool.and_self, Bool.and_true, Bool.true_and])) ?_; simp only [Try.ntmps23, Try.results23, List.length_cons, List.length_nil, Nat.reduceAdd, Nat.reduceSub, List.replicate_succ, List.replicate_zero, List.cons_append, List.nil_append])
 repeat (first | (with_reducible first | refine Stp.up ?_ | refine fun (K : AK) hK => ?_ | (refine hK _ ?_; clear hK K)) | simp only [go_sem, e1, eT] | with_reducible refine wA ?_ | clear hK K)
 refine awp_loopF (ι := Nat) (fun i => [(0, .slc 6 (l.map encO) l.length), (2, .v (.slice none 0 0)), (3, .vec 0 (l.length + i)), (4, .v (.int .i64 i))]) (fun i => [some ⟨64, 6, true, l.map encO ++ mksN markO i⟩]) (fun i => 12 - i) (fun i => i ≤ 12) 0 (by omega) ?_ ?_
 ·(refine wk_mk ?_ ?_ ?_ <;> simp only [frm, List.foldl_cons, List.foldl_nil, List.replicate_succ, List.replicate_zero, WkT, WkO, AV.v.injEq, Value.int.injEq, Value.bool.injEq, Value.string.injEq, AV.vec.injEq, AV.ptr.injEq, true_or, or_true, false_or, or_false, AObj.mk.injEq, forall_eq_apply_imp_iff, forall_eq, forall_eq', go_sem])
  ·exact ⟨rfl, rfl⟩
  ·simp [mksN]
 ·intro i hi K hK
  simp only [frm, List.foldl_cons, List.foldl_nil, List.replicate_succ, List.replicate_zero, go_sem]
  repeat (first | (with_reducible first | refine Stp.up ?_ | refine fun (K : AK) hK => ?_ | (refine hK _ ?_; clear hK K)) | simp only [go_sem] | with_reducible refine wA ?_ | clear hK K)
  refine AIf.part (fun h2 => ?_) (fun h2 => ?_)
  ·have hlt : i < 12 := by (try simp only [decide_eq_true_eq, decide_eq_false_iff_not] at h2); omega
   have eW := wrap_succ (k := i) (by omega)
   have M := markO_c i (by omega)
   simp only [markO, mk1] at M
   repeat (first | (with_reducible first | refine Stp.up ?_ | refine fun (K : AK) hK => ?_ | (refine hK _ ?_; clear hK K)) | simp only [go_sem, eW] | with_reducible refine wA ?_ | clear hK K)
   refine ACallV.one M ?_
   repeat (first | (with_reducible first | refine Stp.up ?_ | refine fun (K : AK) hK => ?_ | (refine hK _ ?_; clear hK K)) | simp only [go_sem, eW] | with_reducible refine wA ?_ | clear hK K)
   exact LNext.mk (i + 1) (by omega) (by omega) (by (refine wk_mk ?_ ?_ ?_ <;> simp only [frm, List.foldl_cons, List.foldl_nil, List.replicate_succ, List.replicate_zero, WkT, WkO, AV.v.injEq, Value.int.injEq, Value.bool.injEq, Value.string.injEq, AV.vec.injEq, AV.ptr.injEq, true_or, or_true, false_or, or_false, AObj.mk.injEq, forall_eq_apply_imp_iff, forall_eq, forall_eq', go_sem]) <;> rfl)
  ·have h12 : i = 12 := by (try simp only [decide_eq_true_eq, decide_eq_false_iff_not] at h2); omega
   have eM : mksN markO i = marksOf markO := by rw [h12]; rfl
   repeat (first | (with_reducible first | refine Stp.up ?_ | refine fun (K : AK) hK => ?_ | (refine hK _ ?_; clear hK K)) | simp only [go_sem, eM] | with_reducible refine wA ?_ | clear hK K)
   exact AFz.slc (by simp only [wfR_app, wf_encO, wf_marksO, Bool.and_self])
def Qry.lens (n : Nat) (q : Qry) : Prop := q.pats.length ≤ n ∧ q.conds.length ≤ n ∧ q.ret.length ≤ n ∧ ∀ p, p ∈ q.pats → p.expr.lens n
set_option maxRecDepth 100000 in
theorem lentQuery_c (q : Qry) (h : q.lens 1000000) : Call1 Try.prog 6 [.agg (encQ q)] (.agg (lentQ q)) := by
 have C1 := lentPatterns_c q.pats h.1 h.2.2.2
 have C2 := lentC_c q.conds h.2.1
 have C3 := lentO_c q.ret h.2.2.1
 simp only [encQ, lentQ]
 (refine Call1.enter Try.func6 rfl (by kernel_rfl) (by kernel_rfl) rfl (by first | rfl | (simp only [go_sem, Bool.and_self, Bool.and_true, Bool.true_and])) (by first | rfl | (simp only [go_sem, Bool.and_self, Bool.and_true, Bool.true_and])) ?_; simp only [Try.ntmps6, Try.results6, List.length_cons, List.length_nil, Nat.reduceAdd, Nat.reduceSub, List.replicate_succ, List.replicate_zero, List.cons_append, List.nil_append])
 repeat (first | (with_reducible first | refine Stp.up ?_ | refine fun (K : AK) hK => ?_ | (refine hK _ ?_; clear hK K)) | simp only [go_sem] | clear hK K)
 refine ACallV.one C1 ?_
 repeat (first | (with_reducible first | refine Stp.up ?_ | refine fun (K : AK) hK => ?_ | (refine hK _ ?_; clear hK K)) | simp only [go_sem] | clear hK K)
 refine ACallV.one C2 ?_
 repeat (first | (with_reducible first | refine Stp.up ?_ | refine fun (K : AK) hK => ?_ | (refine hK _ ?_; clear hK K)) | simp only [go_sem] | clear hK K)
 refine ACallV.one C3 ?_
 repeat (first | (with_reducible first | refine Stp.up ?_ | refine fun (K : AK) hK => ?_ | (refine hK _ ?_; clear hK K)) | simp only [go_sem] | clear hK K)
 (refine AFz.of 40 rfl ?_; simp only [go_sem])
end Go.Proofs.Ytldnlbcibmmbbaa
