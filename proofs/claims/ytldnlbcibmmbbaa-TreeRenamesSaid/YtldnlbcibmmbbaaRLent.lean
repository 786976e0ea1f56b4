/- The statements' kit: what is lent, expressions: the walks. -/
import Derived.Test.YtldnlbcibmmbbaaRTy
import Derived.Test.YtldnlbcibmmbbaaREnc
set_option linter.unusedSimpArgs false
set_option linter.unusedVariables false
namespace Go.Proofs.Ytldnlbcibmmbbaa
open Go.RowKit

attribute [go_sem] Value.oneCell'
def mk1 (i : Nat) : AV := .v (.int .i64 ((8000024 + i : Nat) : Int))
def markE (i : Nat) : List AV := [mk1 i, .v (.string ⟨#[]⟩), .v (.slice none 0 0)]
def mksN (f : Nat → List AV) : Nat → List (List AV)
 | 0 => []
 | n + 1 => mksN f n ++ [f n]
@[go_sem] theorem mksN_len (f : Nat → List AV) : ∀ n, (mksN f n).length = n
 | 0 => rfl
 | n + 1 => by rw [mksN, List.length_append, mksN_len f n]; rfl
def marksOf (f : Nat → List AV) : List (List AV) := mksN f 12
mutual
def lentE : Ex → List AV
 | .mk k s l => [.v (.int .i64 k), .v (.string s), .slc 3 (lentEs l ++ marksOf markE) l.length]
def lentEs : List Ex → List (List AV)
 | [] => []
 | x :: xs => lentE x :: lentEs xs
end
theorem lentEs_eq : ∀ l : List Ex, lentEs l = l.map lentE
 | [] => rfl
 | x :: xs => by rw [lentEs, lentEs_eq xs, List.map_cons]
theorem lentE_eq (x : Ex) : lentE x = [.v (.int .i64 x.kind), .v (.string x.label), .slc 3 (x.kids.map lentE ++ marksOf markE) x.kids.length] := by
 obtain ⟨k, s, l⟩ := x; rw [lentE, lentEs_eq]; rfl
theorem wfR_app (n : Nat) (a b : List (List AV)) : wfR n (a ++ b) = (wfR n a && wfR n b) := by
 induction a with
 | nil => simp [wfR]
 | cons x a ih => simp [wfR, ih, Bool.and_assoc]
theorem wf_mksN (n : Nat) (f : Nat → List AV) (h : ∀ i, wfL n (f i) = true) : ∀ k, wfR n (mksN f k) = true
 | 0 => rfl
 | k + 1 => by simp [mksN, wfR_app, wf_mksN n f h k, wfR, h]
theorem wf_marks (n : Nat) (f : Nat → List AV) (h : ∀ i, wfL n (f i) = true) : wfR n (marksOf f) = true := wf_mksN n f h 12
@[go_sem] theorem marks_len (f : Nat → List AV) : (marksOf f).length = 12 := mksN_len f 12
theorem wf_markE (n : Nat) (i : Nat) : wfL n (markE i) = true := rfl
theorem wf_lentE1 (n : Nat) (x : Ex) : wfL n (lentE x) = true := by
 induction x using Ex.ind with
 | h k s l ih =>
  rw [lentE, lentEs_eq]
  simp only [wfL, AV.wf, Bool.and_true, Bool.true_and, wfR_app, wf_marks n _ (wf_markE n)]
  exact wfR_of (fun r hr => by obtain ⟨x, hx, rfl⟩ := List.mem_map.1 hr; exact ih x hx)
theorem wf_lentE (n : Nat) (l : List Ex) : wfR n (l.map lentE) = true := wfR_map _ (wf_lentE1 n) l
attribute [go_sem] wf_lentE1 wf_lentE wfR_app
@[go_sem] theorem wf_mksE (n k : Nat) : wfR n (mksN markE k) = true := wf_mksN n _ (wf_markE n) k
@[go_sem] theorem wf_marksE (n : Nat) : wfR n (marksOf markE) = true := wf_marks n _ (wf_markE n)

set_option maxRecDepth 100000 in
theorem mark_c (i : Nat) (hi : i < 1000) : Call1 Try.prog 78 [.v (.int .i64 1), .v (.int .i64 i)] (mk1 i) := by
 unfold mk1
 (refine Call1.enter Try.func78 rfl (by kernel_rfl) (by kernel_rfl) rfl (by first | rfl | (simp only [go_sem, Bool.and_self, Bool.and_true, Bool.true_and])) (by first | rfl | (simp only [go_sem, Bool.and_self, Bool.and_true, Bool.true_and])) ?_; simp only [Try.ntmps78, Try.results78, List.length_cons, List.length_nil, Nat.reduceAdd, Nat.reduceSub, List.replicate_succ, List.replicate_zero, List.cons_append, List.nil_append])
 repeat (first | (with_reducible first | refine Stp.up ?_ | refine fun (K : AK) hK => ?_ | (refine hK _ ?_; clear hK K)) | simp only [go_sem] | clear hK K)
 rw [wrap_id (n := (1 : Int) + 7) (by decide) (by decide)]
 rw [wrap_id (n := (1000003 : Int) * (1 + 7)) (by decide) (by decide)]
 rw [wrap_id (by omega) (by omega)]
 congr 2
set_option maxRecDepth 100000 in
theorem markExpr_c (i : Nat) (hi : i < 1000) : Call1 Try.prog 97 [.v (.int .i64 1), .v (.int .i64 i)] (.agg (markE i)) := by
 have M := mark_c i hi
 simp only [mk1] at M
 simp only [markE, mk1]
 (refine Call1.enter Try.func97 rfl (by kernel_rfl) (by kernel_rfl) rfl (by first | rfl | (simp only [go_sem, Bool.and_self, Bool.and_true, Bool.true_and])) (by first | rfl | (simp only [go_sem, Bool.and_self, Bool.and_true, Bool.true_and])) ?_; simp only [Try.ntmps97, Try.results97, List.length_cons, List.length_nil, Nat.reduceAdd, Nat.reduceSub, List.replicate_succ, List.replicate_zero, List.cons_append, List.nil_append])
 repeat (first | (with_reducible first | refine Stp.up ?_ | refine fun (K : AK) hK => ?_ | (refine hK _ ?_; clear hK K)) | simp only [go_sem] | clear hK K)
 refine ACallV.one M ?_
 repeat (first | (with_reducible first | refine Stp.up ?_ | refine fun (K : AK) hK => ?_ | (refine hK _ ?_; clear hK K)) | simp only [go_sem] | clear hK K)
 (refine AFz.of 40 rfl ?_; simp only [go_sem])

theorem take_map_succ {α β : Type} (f : α → β) (l : List α) (k : Nat) (h : k < l.length) : (l.take (k + 1)).map f = (l.take k).map f ++ [f l[k]] := by
 rw [List.take_add_one, List.map_append]; simp [h]

theorem lentExprs_of (l : List Ex) (hl : l.length ≤ 1000000) (H : ∀ x, x ∈ l → Call1 Try.prog 77 [.agg (encE x)] (.agg (lentE x))) :
  Call1 Try.prog 92 [.slc 3 (l.map encE) l.length] (.slc 3 (l.map lentE ++ marksOf markE) l.length) := by
 have e1 : IntKind.i64.wrap ((l.length : Int) + 12) = ((l.length + 12 : Nat) : Int) := by rw [wrap_id (by omega) (by omega)]; omega
 (refine Call1.enter Try.func92 rfl (by kernel_rfl) (by kernel_rfl) rfl (by first | rfl | (simp only [go_sem, Bool.and_self, Bool.and_true, Bool.true_and])) (by first | rfl | (simp only [go_sem, Bool.and_self, Bool.and_true, Bool.true_and])) ?_; simp only [Try.ntmps92, Try.results92, List.length_cons, List.length_nil, Nat.reduceAdd, Nat.reduceSub, List.replicate_succ, List.replicate_zero, List.cons_append, List.nil_append])
 repeat (first | (with_reducible first | refine Stp.up ?_ | refine fun (K : AK) hK => ?_ | (refine hK _ ?_; clear hK K)) | simp only [go_sem, e1] | with_reducible refine wA ?_ | clear hK K)
 refine awp_loopF (ι := Nat) (fun k => [(0, .slc 3 (l.map encE) l.length), (2, .v (.slice none 0 0)), (3, .vec 0 k), (4, .v (.int .i64 k))]) (fun k => [some ⟨43, 3, true, (l.take k).map lentE⟩]) (fun k => l.length - k) (fun k => k ≤ l.length) 0 (by omega) ?_ ?_
 ·(refine wk_mk ?_ ?_ ?_ <;> simp only [frm, List.foldl_cons, List.foldl_nil, List.replicate_succ, List.replicate_zero, WkT, WkO, AV.v.injEq, Value.int.injEq, Value.bool.injEq, Value.string.injEq, AV.vec.injEq, AV.ptr.injEq, true_or, or_true, false_or, or_false, AObj.mk.injEq, forall_eq_apply_imp_iff, forall_eq, forall_eq', go_sem])
  rfl
 ·intro k hk K hK
  simp only [frm, List.foldl_cons, List.foldl_nil, List.replicate_succ, List.replicate_zero, go_sem]
  repeat (first | (with_reducible first | refine Stp.up ?_ | refine fun (K : AK) hK => ?_ | (refine hK _ ?_; clear hK K)) | simp only [go_sem] | with_reducible refine wA ?_ | clear hK K)
  refine AIf.part (fun h => ?_) (fun h => ?_)
  ·have hlt : k < l.length := by (try simp only [bne_iff_ne, ne_eq, bne_eq_false_iff_eq, beq_iff_eq, beq_eq_false_iff_ne, decide_eq_true_eq, decide_eq_false_iff_not, Bool.not_eq_eq_eq_not, Int.natCast_inj, Int.ofNat_lt, Int.ofNat_le] at h); omega
   have eG := getD_map encE l k [] hlt
   have eW := wrap_succ (k := k) (by omega)
   have HX := H l[k] (List.getElem_mem hlt)
   have eT : (l.take (k + 1)).map lentE = (l.take k).map lentE ++ [lentE l[k]] := take_map_succ lentE l k hlt
   simp only [encE_eq, lentE_eq] at HX eG eT
   repeat (first | (with_reducible first | refine Stp.up ?_ | refine fun (K : AK) hK => ?_ | (refine hK _ ?_; clear hK K)) | simp only [go_sem, eG, eW, encE_eq] | with_reducible refine wA ?_ | clear hK K)
   refine ACallV.one HX ?_
   have eL : (l.take k).length = k := by rw [List.length_take]; omega
   repeat (first | (with_reducible first | refine Stp.up ?_ | refine fun (K : AK) hK => ?_ | (refine hK _ ?_; clear hK K)) | simp only [go_sem, eW, eL] | with_reducible refine wA ?_ | clear hK K)
   exact LNext.mk (k + 1) (by omega) (by omega) (by (refine wk_mk ?_ ?_ ?_ <;> simp only [frm, List.foldl_cons, List.foldl_nil, List.replicate_succ, List.replicate_zero, WkT, WkO, AV.v.injEq, Value.int.injEq, Value.bool.injEq, Value.string.injEq, AV.vec.injEq, AV.ptr.injEq, true_or, or_true, false_or, or_false, AObj.mk.injEq, forall_eq_apply_imp_iff, forall_eq, forall_eq', go_sem]); exact eT.symm)
  ·have hkl : k = l.length := by (try simp only [bne_iff_ne, ne_eq, bne_eq_false_iff_eq, beq_iff_eq, beq_eq_false_iff_ne, decide_eq_true_eq, decide_eq_false_iff_not, Bool.not_eq_eq_eq_not, Int.natCast_inj, Int.ofNat_lt, Int.ofNat_le] at h); omega
   have eA : List.map lentE (List.take k l) = l.map lentE := by rw [hkl, List.take_length]
   repeat (first | (with_reducible first | refine Stp.up ?_ | refine fun (K : AK) hK => ?_ | (refine hK _ ?_; clear hK K)) | simp only [go_sem, eA] | with_reducible refine wA ?_ | clear hK K)
   refine awp_loopF (ι := Nat) (fun i => [(0, .slc 3 (l.map encE) l.length), (2, .v (.slice none 0 0)), (3, .vec 0 (l.length + i)), (6, .v (.int .i64 i))]) (fun i => [some ⟨43, 3, true, l.map lentE ++ mksN markE i⟩]) (fun i => 12 - i) (fun i => i ≤ 12) 0 (by omega) ?_ ?_
   ·(refine wk_mk ?_ ?_ ?_ <;> simp only [frm, List.foldl_cons, List.foldl_nil, List.replicate_succ, List.replicate_zero, WkT, WkO, AV.v.injEq, Value.int.injEq, Value.bool.injEq, Value.string.injEq, AV.vec.injEq, AV.ptr.injEq, true_or, or_true, false_or, or_false, AObj.mk.injEq, forall_eq_apply_imp_iff, forall_eq, forall_eq', go_sem])
    ·exact ⟨hkl, rfl⟩
    ·simp [mksN]
   ·intro i hi K hK
    simp only [frm, List.foldl_cons, List.foldl_nil, List.replicate_succ, List.replicate_zero, go_sem]
    repeat (first | (with_reducible first | refine Stp.up ?_ | refine fun (K : AK) hK => ?_ | (refine hK _ ?_; clear hK K)) | simp only [go_sem] | with_reducible refine wA ?_ | clear hK K)
    refine AIf.part (fun h2 => ?_) (fun h2 => ?_)
    ·have hlt : i < 12 := by (try simp only [bne_iff_ne, ne_eq, bne_eq_false_iff_eq, beq_iff_eq, beq_eq_false_iff_ne, decide_eq_true_eq, decide_eq_false_iff_not, Bool.not_eq_eq_eq_not, Int.natCast_inj, Int.ofNat_lt, Int.ofNat_le] at h2); omega
     have eW := wrap_succ (k := i) (by omega)
     have M := markExpr_c i (by omega)
     simp only [markE, mk1] at M
     repeat (first | (with_reducible first | refine Stp.up ?_ | refine fun (K : AK) hK => ?_ | (refine hK _ ?_; clear hK K)) | simp only [go_sem, eW] | with_reducible refine wA ?_ | clear hK K)
     refine ACallV.one M ?_
     repeat (first | (with_reducible first | refine Stp.up ?_ | refine fun (K : AK) hK => ?_ | (refine hK _ ?_; clear hK K)) | simp only [go_sem, eW] | with_reducible refine wA ?_ | clear hK K)
     exact LNext.mk (i + 1) (by omega) (by omega) (by (refine wk_mk ?_ ?_ ?_ <;> simp only [frm, List.foldl_cons, List.foldl_nil, List.replicate_succ, List.replicate_zero, WkT, WkO, AV.v.injEq, Value.int.injEq, Value.bool.injEq, Value.string.injEq, AV.vec.injEq, AV.ptr.injEq, true_or, or_true, false_or, or_false, AObj.mk.injEq, forall_eq_apply_imp_iff, forall_eq, forall_eq', go_sem]) <;> rfl)
    ·have h12 : i = 12 := by (try simp only [bne_iff_ne, ne_eq, bne_eq_false_iff_eq, beq_iff_eq, beq_eq_false_iff_ne, decide_eq_true_eq, decide_eq_false_iff_not, Bool.not_eq_eq_eq_not, Int.natCast_inj, Int.ofNat_lt, Int.ofNat_le] at h2); omega
     have eM : mksN markE i = marksOf markE := by rw [h12]; rfl
     repeat (first | (with_reducible first | refine Stp.up ?_ | refine fun (K : AK) hK => ?_ | (refine hK _ ?_; clear hK K)) | simp only [go_sem, eM] | with_reducible refine wA ?_ | clear hK K)
     exact AFz.slc (by simp only [wfR_app, wf_lentE, wf_marksE, Bool.and_self])
def Ex.lens (n : Nat) (x : Ex) : Prop := ∀ y, y ∈ exParts x → y.kids.length ≤ n
set_option maxRecDepth 100000 in
theorem lentExpr_c (x : Ex) (hx : x.lens 1000000) : Call1 Try.prog 77 [.agg (encE x)] (.agg (lentE x)) := by
 induction x using Ex.ind with
 | h k s l ih =>
  have hk : ∀ y, y ∈ l → y.lens 1000000 := fun y hy z hz => hx z (by rw [exParts, exsParts_eq]; exact List.mem_cons_of_mem _ (List.mem_flatMap.2 ⟨y, hy, hz⟩))
  have C := lentExprs_of l (hx (.mk k s l) (by rw [exParts]; exact List.mem_cons_self)) (fun y hy => ih y hy (hk y hy))
  rw [encE_eq, lentE_eq]
  simp only [Ex.kind, Ex.label, Ex.kids]
  (refine Call1.enter Try.func77 rfl (by kernel_rfl) (by kernel_rfl) rfl (by first | rfl | (simp only [go_sem, Bool.and_self, Bool.and_true, Bool.true_and])) (by first | rfl | (simp only [go_sem, Bool.and_self, Bool.and_true, Bool.true_and])) ?_; simp only [Try.ntmps77, Try.results77, List.length_cons, List.length_nil, Nat.reduceAdd, Nat.reduceSub, List.replicate_succ, List.replicate_zero, List.cons_append, List.nil_append])
  repeat (first | (with_reducible first | refine Stp.up ?_ | refine fun (K : AK) hK => ?_ | (refine hK _ ?_; clear hK K)) | simp only [go_sem] | with_reducible refine wA ?_ | clear hK K)
  refine ACallV.one C ?_
  repeat (first | (with_reducible first | refine Stp.up ?_ | refine fun (K : AK) hK => ?_ | (refine hK _ ?_; clear hK K)) | simp only [go_sem] | with_reducible refine wA ?_ | clear hK K)
  (refine AFz.of 40 rfl ?_; simp only [go_sem])
end Go.Proofs.Ytldnlbcibmmbbaa
