/- The statements' kit: numbers and texts that are lent, and kept: the walks. -/
import Derived.Test.YtmdkgajjekbanaaDoorELent
import Derived.Test.YtmdkgajjekbanaaDoorEOpenX
set_option linter.unusedSimpArgs false
set_option linter.unusedVariables false
namespace Go.Proofs.YtmdkgajjekbanaaDoor
open Go.RowKit

def markI (i : Nat) : List AV := [mk1 i]
theorem wrp12 {n : Nat} (h : n ≤ 1000000) : IntKind.i64.wrap ((n : Int) + 12) = ((n + 12 : Nat) : Int) := by rw [wrap_id (by omega) (by omega)]; omega
theorem wf_mapI (n : Nat) (l : List Int) : wfR n (l.map encI) = true := wfR_map _ (fun _ => rfl) l
@[go_sem] theorem wf_mksI (n k : Nat) : wfR n (mksN markI k) = true := wf_mksN n _ (fun _ => rfl) k
@[go_sem] theorem wf_marksI (n : Nat) : wfR n (marksOf markI) = true := wf_mksN n _ (fun _ => rfl) 12
theorem gt_lt {α : Type} (f : α → List AV) (l : List α) (m : List (List AV)) (i : Nat) (h : i < l.length) : (l.map f ++ m).getD i [] = f l[i] := by
 rw [List.getD_eq_getElem?_getD, List.getElem?_append_left (by simpa using h)]; simp [h]
theorem mksG (f : Nat → List AV) : ∀ n i, i < n → (mksN f n)[i]? = some (f i)
 | 0, i, h => absurd h (by omega)
 | n + 1, i, h => by
  rw [mksN]
  rcases Nat.lt_or_ge i n with q | q
  ·rw [List.getElem?_append_left (by rw [mksN_len]; exact q)]; exact mksG f n i q
  ·obtain rfl : i = n := by omega
   rw [List.getElem?_append_right (by rw [mksN_len]; exact Nat.le_refl _), mksN_len]; simp
theorem gt_ge {α : Type} (f : α → List AV) (l : List α) (m : Nat → List AV) (j : Nat) (h : j < 12) : (l.map f ++ marksOf m).getD (l.length + j) [] = m j := by
 rw [List.getD_eq_getElem?_getD, List.getElem?_append_right (by simp), List.length_map, Nat.add_sub_cancel_left, marksOf, mksG m 12 j h]; rfl
set_option maxRecDepth 100000 in
set_option maxHeartbeats 2000000 in
theorem lentInts_c (l : List Int) (hl : l.length ≤ 1000000) :
  Call1 Tryd.prog 25 [.slc 1 (l.map encI) l.length] (.slc 1 (l.map encI ++ marksOf markI) l.length) := by
 have e1 : IntKind.i64.wrap ((l.length : Int) + 12) = ((l.length + 12 : Nat) : Int) := wrp12 hl
 have eT : List.take l.length (l.map encI) = l.map encI := by rw [List.take_of_length_le (by simp)]
 (refine Call1.enter Tryd.func25 rfl (by kernel_rfl) (by kernel_rfl) rfl (by first | rfl | (simp only [go_sem, Bool.and_self, Bool.and_true, Bool.true_and])) (by first | rfl | (simp only [go_sem, Bool.and_self, Bool.and_true, Bool.true_and])) ?_; simp only [Tryd.ntmps25, Tryd.results25, List.length_cons, List.length_nil, Nat.reduceAdd, Nat.reduceSub, List.replicate_succ, List.replicate_zero, List.cons_append, List.nil_append])
 repeat (first | (with_reducible first | refine Stp.up ?_ | refine fun (K : AK) hK => ?_ | (refine hK _ ?_; clear hK K)) | simp only [go_sem, e1, eT] | with_reducible refine wA ?_ | clear hK K)
 refine awp_loopF (ι := Nat) (fun i => [(0, .slc 1 (l.map encI) l.length), (2, .v (.slice none 0 0)), (3, .vec 0 (l.length + i)), (4, .v (.int .i64 i))]) (fun i => [some ⟨3, 1, true, l.map encI ++ mksN markI i⟩]) (fun i => 12 - i) (fun i => i ≤ 12) 0 (by omega) ?_ ?_
 ·(refine wk_mk ?_ ?_ ?_ <;> simp only [frm, List.foldl_cons, List.foldl_nil, List.replicate_succ, List.replicate_zero, WkT, WkO, AV.v.injEq, Value.int.injEq, Value.bool.injEq, Value.string.injEq, AV.vec.injEq, AV.ptr.injEq, true_or, or_true, false_or, or_false, AObj.mk.injEq, forall_eq_apply_imp_iff, forall_eq, forall_eq', go_sem])
  ·exact ⟨rfl, rfl⟩
  ·simp [mksN]
 ·intro i hi K hK
  simp only [frm, List.foldl_cons, List.foldl_nil, List.replicate_succ, List.replicate_zero, go_sem]
  repeat (first | (with_reducible first | refine Stp.up ?_ | refine fun (K : AK) hK => ?_ | (refine hK _ ?_; clear hK K)) | simp only [go_sem] | with_reducible refine wA ?_ | clear hK K)
  refine AIf.part (fun h2 => ?_) (fun h2 => ?_)
  ·have hlt : i < 12 := by (try simp only [bne_iff_ne, ne_eq, bne_eq_false_iff_eq, beq_iff_eq, beq_eq_false_iff_ne, decide_eq_true_eq, decide_eq_false_iff_not, Bool.not_eq_eq_eq_not, Int.natCast_inj, Int.ofNat_lt, Int.ofNat_le] at h2); omega
   have eW := wrap_succ (k := i) (by omega)
   have M := mark_c i (by omega)
   simp only [mk1] at M
   repeat (first | (with_reducible first | refine Stp.up ?_ | refine fun (K : AK) hK => ?_ | (refine hK _ ?_; clear hK K)) | simp only [go_sem, eW] | with_reducible refine wA ?_ | clear hK K)
   refine ACallV.one M ?_
   repeat (first | (with_reducible first | refine Stp.up ?_ | refine fun (K : AK) hK => ?_ | (refine hK _ ?_; clear hK K)) | simp only [go_sem, eW] | with_reducible refine wA ?_ | clear hK K)
   exact LNext.mk (i + 1) (by omega) (by omega) (by (refine wk_mk ?_ ?_ ?_ <;> simp only [frm, List.foldl_cons, List.foldl_nil, List.replicate_succ, List.replicate_zero, WkT, WkO, AV.v.injEq, Value.int.injEq, Value.bool.injEq, Value.string.injEq, AV.vec.injEq, AV.ptr.injEq, true_or, or_true, false_or, or_false, AObj.mk.injEq, forall_eq_apply_imp_iff, forall_eq, forall_eq', go_sem]) <;> rfl)
  ·have h12 : i = 12 := by (try simp only [bne_iff_ne, ne_eq, bne_eq_false_iff_eq, beq_iff_eq, beq_eq_false_iff_ne, decide_eq_true_eq, decide_eq_false_iff_not, Bool.not_eq_eq_eq_not, Int.natCast_inj, Int.ofNat_lt, Int.ofNat_le] at h2); omega
   have eM : mksN markI i = marksOf markI := by rw [h12]; rfl
   repeat (first | (with_reducible first | refine Stp.up ?_ | refine fun (K : AK) hK => ?_ | (refine hK _ ?_; clear hK K)) | simp only [go_sem, eM] | with_reducible refine wA ?_ | clear hK K)
   exact AFz.slc (by simp only [wfR_app, wf_mapI, wf_marksI, Bool.and_self])
set_option maxRecDepth 100000 in
set_option maxHeartbeats 4000000 in
theorem keptInts_c (l : List Int) (hl : l.length ≤ 1000000) :
  Call1 Tryd.prog 31 [.slc 1 (l.map encI ++ marksOf markI) l.length, .slc 1 (l.map encI) l.length] (.v (.bool true)) := by
 have e1 : IntKind.i64.wrap ((l.length : Int) + 12) = ((l.length + 12 : Nat) : Int) := wrp12 hl
 have w1 : wfR 0 (l.map encI ++ marksOf markI) = true := by simp only [wfR_app, wf_mapI, wf_marksI, Bool.and_self]
 (refine Call1.enter Tryd.func31 rfl (by kernel_rfl) (by kernel_rfl) rfl (by simp only [go_sem, wfL, AV.wf, Bool.and_self, Bool.and_true, Bool.true_and, w1, wf_mapI]) (by simp only [go_sem, wfL, AV.wf, wf_encS, Bool.and_self, Bool.and_true, Bool.true_and, w1, wf_mapI]) ?_; simp only [Tryd.ntmps31, Tryd.results31, List.length_cons, List.length_nil, Nat.reduceAdd, Nat.reduceSub, List.replicate_succ, List.replicate_zero, List.cons_append, List.nil_append])
 repeat (first | (with_reducible first | refine Stp.up ?_ | refine fun (K : AK) hK => ?_ | refine wD ?_ | (refine hK _ ?_; clear hK K)) | simp only [go_sem, e1] | with_reducible refine wA ?_ | clear hK K)
 refine awp_loopF (ι := Nat) (fun i => [(0, .slc 1 (l.map encI ++ marksOf markI) l.length), (1, .slc 1 (l.map encI) l.length), (4, .v (.bool false)), (5, .slc 1 (l.map encI ++ marksOf markI) (l.length + 12)), (6, .v (.int .i64 i))]) (fun _ => []) (fun i => l.length + 12 - i) (fun i => i ≤ l.length + 12) 0 (by omega) ?_ ?_
 ·(refine wk_mk ?_ ?_ ?_ <;> simp only [frm, List.foldl_cons, List.foldl_nil, List.replicate_succ, List.replicate_zero, WkT, WkO, AV.v.injEq, Value.int.injEq, Value.bool.injEq, Value.string.injEq, AV.vec.injEq, AV.ptr.injEq, true_or, or_true, false_or, or_false, AObj.mk.injEq, forall_eq_apply_imp_iff, forall_eq, forall_eq', go_sem])
  rfl
 ·intro i hi K hK
  simp only [frm, List.foldl_cons, List.foldl_nil, List.replicate_succ, List.replicate_zero, go_sem]
  repeat (first | (with_reducible first | refine Stp.up ?_ | refine fun (K : AK) hK => ?_ | refine wD ?_ | (refine hK _ ?_; clear hK K)) | simp only [go_sem] | with_reducible refine wA ?_ | clear hK K)
  refine AIf.part (fun h => ?_) (fun h => ?_)
  ·have hlt : i < l.length + 12 := by (try simp only [decide_eq_true_eq, decide_eq_false_iff_not, Int.ofNat_lt, Int.ofNat_le] at h); omega
   have eW := wrap_succ (k := i) (by omega)
   rcases Nat.lt_or_ge i l.length with q | q
   ·have g1 : decide ((i : Int) < (l.length : Int)) = true := by simpa using q
    have g2 : decide ((l.length : Int) ≤ (i : Int)) = false := by simpa using q
    have eG := gt_lt encI l (marksOf markI) i q
    have eH := getD_map encI l i [] q
    simp only [encI] at eG eH
    repeat (first | (with_reducible first | refine Stp.up ?_ | refine fun (K : AK) hK => ?_ | refine wD ?_ | (refine hK _ ?_; clear hK K)) | simp only [go_sem, g1, g2, eG, eH, eW, Go.undef] | with_reducible refine wA ?_ | clear hK K)
    exact LNext.mk (i + 1) (by omega) (by omega) (by (refine wk_mk ?_ ?_ ?_ <;> simp only [frm, List.foldl_cons, List.foldl_nil, List.replicate_succ, List.replicate_zero, WkT, WkO, AV.v.injEq, Value.int.injEq, Value.bool.injEq, Value.string.injEq, AV.vec.injEq, AV.ptr.injEq, true_or, or_true, false_or, or_false, AObj.mk.injEq, forall_eq_apply_imp_iff, forall_eq, forall_eq', go_sem]))
   ·obtain ⟨j, hj⟩ : ∃ j, i = l.length + j := ⟨i - l.length, by omega⟩
    have g1 : decide ((i : Int) < (l.length : Int)) = false := decide_eq_false (by omega)
    have g2 : decide ((l.length : Int) ≤ (i : Int)) = true := decide_eq_true (by omega)
    have eS : IntKind.i64.wrap ((i : Int) - (l.length : Int)) = (j : Int) := by rw [wrap_id (by omega) (by omega)]; omega
    have eG : (l.map encI ++ marksOf markI).getD i [] = markI j := by rw [hj]; exact gt_ge encI l markI j (by omega)
    have M := mark_c j (by omega)
    simp only [markI, mk1] at M eG
    repeat (first | (with_reducible first | refine Stp.up ?_ | refine fun (K : AK) hK => ?_ | refine wD ?_ | (refine hK _ ?_; clear hK K)) | simp only [go_sem, g1, g2, eG, eS, eW, Go.undef] | with_reducible refine wA ?_ | clear hK K)
    refine ACallS.one M ?_
    repeat (first | (with_reducible first | refine Stp.up ?_ | refine fun (K : AK) hK => ?_ | refine wD ?_ | (refine hK _ ?_; clear hK K)) | simp only [go_sem, g1, g2, eG, eS, eW, Go.undef] | with_reducible refine wA ?_ | clear hK K)
    exact LNext.mk (i + 1) (by omega) (by omega) (by (refine wk_mk ?_ ?_ ?_ <;> simp only [frm, List.foldl_cons, List.foldl_nil, List.replicate_succ, List.replicate_zero, WkT, WkO, AV.v.injEq, Value.int.injEq, Value.bool.injEq, Value.string.injEq, AV.vec.injEq, AV.ptr.injEq, true_or, or_true, false_or, or_false, AObj.mk.injEq, forall_eq_apply_imp_iff, forall_eq, forall_eq', go_sem]))
  ·repeat (first | (with_reducible first | refine Stp.up ?_ | refine fun (K : AK) hK => ?_ | refine wD ?_ | (refine hK _ ?_; clear hK K)) | simp only [go_sem] | with_reducible refine wA ?_ | clear hK K)
set_option maxRecDepth 100000 in
set_option maxHeartbeats 2000000 in
theorem markText_c (i : Nat) (hi : i < 12) : Call1 Tryd.prog 52 [.v (.int .i64 1), .v (.int .i64 i)] (.v (.string ⟨#[35, 1, 0, 0, 47, UInt8.ofNat i, 0, 0]⟩)) := by
 (refine Call1.enter Tryd.func52 rfl (by kernel_rfl) (by kernel_rfl) rfl (by first | rfl | (simp only [go_sem, Bool.and_self, Bool.and_true, Bool.true_and])) (by first | rfl | (simp only [go_sem, Bool.and_self, Bool.and_true, Bool.true_and])) ?_; simp only [Tryd.ntmps52, Tryd.results52, List.length_cons, List.length_nil, Nat.reduceAdd, Nat.reduceSub, List.replicate_succ, List.replicate_zero, List.cons_append, List.nil_append])
 repeat (first | (with_reducible first | refine Stp.up ?_ | refine fun (K : AK) hK => ?_ | (refine hK _ ?_; clear hK K)) | simp only [go_sem] | clear hK K)
 rcases (by omega : i = 0 ∨ i = 1 ∨ i = 2 ∨ i = 3 ∨ i = 4 ∨ i = 5 ∨ i = 6 ∨ i = 7 ∨ i = 8 ∨ i = 9 ∨ i = 10 ∨ i = 11) with rfl | rfl | rfl | rfl | rfl | rfl | rfl | rfl | rfl | rfl | rfl | rfl
 all_goals rfl
def mtx (i : Nat) : ByteArray := ⟨#[35, 1, 0, 0, 47, UInt8.ofNat i, 0, 0]⟩
def markT (i : Nat) : List AV := [.v (.string (mtx i))]
theorem wf_mapS (n : Nat) (l : List ByteArray) : wfR n (l.map encS) = true := wfR_map _ (fun _ => rfl) l
@[go_sem] theorem wf_mksT (n k : Nat) : wfR n (mksN markT k) = true := wf_mksN n _ (fun _ => rfl) k
@[go_sem] theorem wf_marksT (n : Nat) : wfR n (marksOf markT) = true := wf_mksN n _ (fun _ => rfl) 12
set_option maxRecDepth 100000 in
set_option maxHeartbeats 2000000 in
theorem lentTexts_c (l : List ByteArray) (hl : l.length ≤ 1000000) :
  Call1 Tryd.prog 26 [.slc 1 (l.map encS) l.length] (.slc 1 (l.map encS ++ marksOf markT) l.length) := by
 have e1 : IntKind.i64.wrap ((l.length : Int) + 12) = ((l.length + 12 : Nat) : Int) := wrp12 hl
 have eT : List.take l.length (l.map encS) = l.map encS := by rw [List.take_of_length_le (by simp)]
 (refine Call1.enter Tryd.func26 rfl (by kernel_rfl) (by kernel_rfl) rfl (by first | rfl | (simp only [go_sem, Bool.and_self, Bool.and_true, Bool.true_and])) (by first | rfl | (simp only [go_sem, Bool.and_self, Bool.and_true, Bool.true_and])) ?_; simp only [Tryd.ntmps26, Tryd.results26, List.length_cons, List.length_nil, Nat.reduceAdd, Nat.reduceSub, List.replicate_succ, List.replicate_zero, List.cons_append, List.nil_append])
 repeat (first | (with_reducible first | refine Stp.up ?_ | refine fun (K : AK) hK => ?_ | (refine hK _ ?_; clear hK K)) | simp only [go_sem, e1, eT] | with_reducible refine wA ?_ | clear hK K)
 refine awp_loopF (ι := Nat) (fun i => [(0, .slc 1 (l.map encS) l.length), (2, .v (.slice none 0 0)), (3, .vec 0 (l.length + i)), (4, .v (.int .i64 i))]) (fun i => [some ⟨9, 1, true, l.map encS ++ mksN markT i⟩]) (fun i => 12 - i) (fun i => i ≤ 12) 0 (by omega) ?_ ?_
 ·(refine wk_mk ?_ ?_ ?_ <;> simp only [frm, List.foldl_cons, List.foldl_nil, List.replicate_succ, List.replicate_zero, WkT, WkO, AV.v.injEq, Value.int.injEq, Value.bool.injEq, Value.string.injEq, AV.vec.injEq, AV.ptr.injEq, true_or, or_true, false_or, or_false, AObj.mk.injEq, forall_eq_apply_imp_iff, forall_eq, forall_eq', go_sem])
  ·exact ⟨rfl, rfl⟩
  ·simp [mksN]
 ·intro i hi K hK
  simp only [frm, List.foldl_cons, List.foldl_nil, List.replicate_succ, List.replicate_zero, go_sem]
  repeat (first | (with_reducible first | refine Stp.up ?_ | refine fun (K : AK) hK => ?_ | (refine hK _ ?_; clear hK K)) | simp only [go_sem] | with_reducible refine wA ?_ | clear hK K)
  refine AIf.part (fun h2 => ?_) (fun h2 => ?_)
  ·have hlt : i < 12 := by (try simp only [decide_eq_true_eq, decide_eq_false_iff_not] at h2); omega
   have eW := wrap_succ (k := i) (by omega)
   have M := markText_c i (by omega)
   repeat (first | (with_reducible first | refine Stp.up ?_ | refine fun (K : AK) hK => ?_ | (refine hK _ ?_; clear hK K)) | simp only [go_sem, eW] | with_reducible refine wA ?_ | clear hK K)
   refine ACallV.one M ?_
   repeat (first | (with_reducible first | refine Stp.up ?_ | refine fun (K : AK) hK => ?_ | (refine hK _ ?_; clear hK K)) | simp only [go_sem, eW] | with_reducible refine wA ?_ | clear hK K)
   exact LNext.mk (i + 1) (by omega) (by omega) (by (refine wk_mk ?_ ?_ ?_ <;> simp only [frm, List.foldl_cons, List.foldl_nil, List.replicate_succ, List.replicate_zero, WkT, WkO, AV.v.injEq, Value.int.injEq, Value.bool.injEq, Value.string.injEq, AV.vec.injEq, AV.ptr.injEq, true_or, or_true, false_or, or_false, AObj.mk.injEq, forall_eq_apply_imp_iff, forall_eq, forall_eq', go_sem]) <;> rfl)
  ·have h12 : i = 12 := by (try simp only [decide_eq_true_eq, decide_eq_false_iff_not] at h2); omega
   have eM : mksN markT i = marksOf markT := by rw [h12]; rfl
   repeat (first | (with_reducible first | refine Stp.up ?_ | refine fun (K : AK) hK => ?_ | (refine hK _ ?_; clear hK K)) | simp only [go_sem, eM] | with_reducible refine wA ?_ | clear hK K)
   exact AFz.slc (by simp only [wfR_app, wf_mapS, wf_marksT, Bool.and_self])
set_option maxRecDepth 100000 in
set_option maxHeartbeats 4000000 in
theorem keptTexts_c (l : List ByteArray) (hl : l.length ≤ 1000000) :
  Call1 Tryd.prog 32 [.slc 1 (l.map encS ++ marksOf markT) l.length, .slc 1 (l.map encS) l.length] (.v (.bool true)) := by
 have e1 : IntKind.i64.wrap ((l.length : Int) + 12) = ((l.length + 12 : Nat) : Int) := wrp12 hl
 have w1 : wfR 0 (l.map encS ++ marksOf markT) = true := by simp only [wfR_app, wf_mapS, wf_marksT, Bool.and_self]
 (refine Call1.enter Tryd.func32 rfl (by kernel_rfl) (by kernel_rfl) rfl (by simp only [go_sem, wfL, AV.wf, Bool.and_self, Bool.and_true, Bool.true_and, w1, wf_mapS]) (by simp only [go_sem, wfL, AV.wf, wf_encS, Bool.and_self, Bool.and_true, Bool.true_and, w1, wf_mapS]) ?_; simp only [Tryd.ntmps32, Tryd.results32, List.length_cons, List.length_nil, Nat.reduceAdd, Nat.reduceSub, List.replicate_succ, List.replicate_zero, List.cons_append, List.nil_append])
 repeat (first | (with_reducible first | refine Stp.up ?_ | refine fun (K : AK) hK => ?_ | refine wD ?_ | (refine hK _ ?_; clear hK K)) | simp only [go_sem, e1] | with_reducible refine wA ?_ | clear hK K)
 refine awp_loopF (ι := Nat) (fun i => [(0, .slc 1 (l.map encS ++ marksOf markT) l.length), (1, .slc 1 (l.map encS) l.length), (4, .v (.bool false)), (5, .slc 1 (l.map encS ++ marksOf markT) (l.length + 12)), (6, .v (.int .i64 i))]) (fun _ => []) (fun i => l.length + 12 - i) (fun i => i ≤ l.length + 12) 0 (by omega) ?_ ?_
 ·(refine wk_mk ?_ ?_ ?_ <;> simp only [frm, List.foldl_cons, List.foldl_nil, List.replicate_succ, List.replicate_zero, WkT, WkO, AV.v.injEq, Value.int.injEq, Value.bool.injEq, Value.string.injEq, AV.vec.injEq, AV.ptr.injEq, true_or, or_true, false_or, or_false, AObj.mk.injEq, forall_eq_apply_imp_iff, forall_eq, forall_eq', go_sem])
  rfl
 ·intro i hi K hK
  simp only [frm, List.foldl_cons, List.foldl_nil, List.replicate_succ, List.replicate_zero, go_sem]
  repeat (first | (with_reducible first | refine Stp.up ?_ | refine fun (K : AK) hK => ?_ | refine wD ?_ | (refine hK _ ?_; clear hK K)) | simp only [go_sem] | with_reducible refine wA ?_ | clear hK K)
  refine AIf.part (fun h => ?_) (fun h => ?_)
  ·have hlt : i < l.length + 12 := by (try simp only [decide_eq_true_eq, decide_eq_false_iff_not, Int.ofNat_lt, Int.ofNat_le] at h); omega
   have eW := wrap_succ (k := i) (by omega)
   rcases Nat.lt_or_ge i l.length with q | q
   ·have g1 : decide ((i : Int) < (l.length : Int)) = true := by simpa using q
    have g2 : decide ((l.length : Int) ≤ (i : Int)) = false := by simpa using q
    have eG := gt_lt encS l (marksOf markT) i q
    have eH := getD_map encS l i [] q
    simp only [encS] at eG eH
    repeat (first | (with_reducible first | refine Stp.up ?_ | refine fun (K : AK) hK => ?_ | refine wD ?_ | (refine hK _ ?_; clear hK K)) | simp only [go_sem, g1, g2, eG, eH, eW, Go.undef] | with_reducible refine wA ?_ | clear hK K)
    exact LNext.mk (i + 1) (by omega) (by omega) (by (refine wk_mk ?_ ?_ ?_ <;> simp only [frm, List.foldl_cons, List.foldl_nil, List.replicate_succ, List.replicate_zero, WkT, WkO, AV.v.injEq, Value.int.injEq, Value.bool.injEq, Value.string.injEq, AV.vec.injEq, AV.ptr.injEq, true_or, or_true, false_or, or_false, AObj.mk.injEq, forall_eq_apply_imp_iff, forall_eq, forall_eq', go_sem]))
   ·obtain ⟨j, hj⟩ : ∃ j, i = l.length + j := ⟨i - l.length, by omega⟩
    have g1 : decide ((i : Int) < (l.length : Int)) = false := decide_eq_false (by omega)
    have g2 : decide ((l.length : Int) ≤ (i : Int)) = true := decide_eq_true (by omega)
    have eS : IntKind.i64.wrap ((i : Int) - (l.length : Int)) = (j : Int) := by rw [wrap_id (by omega) (by omega)]; omega
    have eG : (l.map encS ++ marksOf markT).getD i [] = markT j := by rw [hj]; exact gt_ge encS l markT j (by omega)
    have M := markText_c j (by omega)
    simp only [markT, mtx] at M eG
    repeat (first | (with_reducible first | refine Stp.up ?_ | refine fun (K : AK) hK => ?_ | refine wD ?_ | (refine hK _ ?_; clear hK K)) | simp only [go_sem, g1, g2, eG, eS, eW, Go.undef] | with_reducible refine wA ?_ | clear hK K)
    refine ACallS.one M ?_
    repeat (first | (with_reducible first | refine Stp.up ?_ | refine fun (K : AK) hK => ?_ | refine wD ?_ | (refine hK _ ?_; clear hK K)) | simp only [go_sem, g1, g2, eG, eS, eW, Go.undef] | with_reducible refine wA ?_ | clear hK K)
    exact LNext.mk (i + 1) (by omega) (by omega) (by (refine wk_mk ?_ ?_ ?_ <;> simp only [frm, List.foldl_cons, List.foldl_nil, List.replicate_succ, List.replicate_zero, WkT, WkO, AV.v.injEq, Value.int.injEq, Value.bool.injEq, Value.string.injEq, AV.vec.injEq, AV.ptr.injEq, true_or, or_true, false_or, or_false, AObj.mk.injEq, forall_eq_apply_imp_iff, forall_eq, forall_eq', go_sem]))
  ·repeat (first | (with_reducible first | refine Stp.up ?_ | refine fun (K : AK) hK => ?_ | refine wD ?_ | (refine hK _ ?_; clear hK K)) | simp only [go_sem] | with_reducible refine wA ?_ | clear hK K)
end Go.Proofs.YtmdkgajjekbanaaDoor
