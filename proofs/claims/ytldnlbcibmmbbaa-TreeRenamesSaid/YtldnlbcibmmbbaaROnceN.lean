/- The statements' kit: numbers and texts that are lent, and kept: the walks. -/
import Derived.Test.YtldnlbcibmmbbaaRLent
import Derived.Test.YtldnlbcibmmbbaaREnc
import Derived.Test.YtldnlbcibmmbbaaRRen2
set_option linter.unusedSimpArgs false
set_option linter.unusedVariables false
namespace Go.Proofs.Ytldnlbcibmmbbaa
open Go.RowKit

def markI (i : Nat) : List AV := [mk1 i]
theorem wrp12 {n : Nat} (h : n ≤ 1000000) : IntKind.i64.wrap ((n : Int) + 12) = ((n + 12 : Nat) : Int) := by rw [wrap_id (by omega) (by omega)]; omega
@[go_sem] theorem wf_mksI (n k : Nat) : wfR n (mksN markI k) = true := wf_mksN n _ (fun _ => rfl) k
@[go_sem] theorem wf_marksI (n : Nat) : wfR n (marksOf markI) = true := wf_mksN n _ (fun _ => rfl) 12
theorem gt_lt {α : Type} (f : α → List AV) (l : List α) (m : List (List AV)) (i : Nat) (h : i < l.length) : (l.map f ++ m).getD i [] = f l[i] := by
 rw [List.getD_eq_getElem?_getD, List.getElem?_append_left (by simpa using h)]; simp [h]
theorem mksG (f : Nat → List AV) : ∀ n i, i < n → (mksN f n)[i]? = some (f i)
 | 0, i, h => absurd h (by omega)
 | n + 1, i, h => by
  rw [mksN]
  rcases Nat.lt_or_ge i n with q | q
  ·rw [List.getElem?_append_left (by rw [mksN_len]; exact q)]; exact mksG f n i q
  ·obtain rfl : i = n := by omega
   rw [List.getElem?_append_right (by rw [mksN_len]; exact Nat.le_refl _), mksN_len]; simp
theorem gt_ge {α : Type} (f : α → List AV) (l : List α) (m : Nat → List AV) (j : Nat) (h : j < 12) : (l.map f ++ marksOf m).getD (l.length + j) [] = m j := by
 rw [List.getD_eq_getElem?_getD, List.getElem?_append_right (by simp), List.length_map, Nat.add_sub_cancel_left, marksOf, mksG m 12 j h]; rfl

set_option maxRecDepth 100000 in
set_option maxHeartbeats 2000000 in
theorem markText_c (i : Nat) (hi : i < 12) : Call1 Try.prog 24 [.v (.int .i64 1), .v (.int .i64 i)] (.v (.string ⟨#[35, 1, 0, 0, 47, UInt8.ofNat i, 0, 0]⟩)) := by
 (refine Call1.enter Try.func24 rfl (by kernel_rfl) (by kernel_rfl) rfl (by first | rfl | (simp only [go_sem, Bool.and_self, Bool.and_true, Bool.true_and])) (by first | rfl | (simp only [go_sem, Bool.and_self, Bool.and_true, Bool.true_and])) ?_; simp only [Try.ntmps24, Try.results24, List.length_cons, List.length_nil, Nat.reduceAdd, Nat.reduceSub, List.replicate_succ, List.replicate_zero, List.cons_append, List.nil_append])
 repeat (first | (with_reducible first | refine Stp.up ?_ | refine fun (K : AK) hK => ?_ | (refine hK _ ?_; clear hK K)) | simp only [go_sem] | clear hK K)
 rcases (by omega : i = 0 ∨ i = 1 ∨ i = 2 ∨ i = 3 ∨ i = 4 ∨ i = 5 ∨ i = 6 ∨ i = 7 ∨ i = 8 ∨ i = 9 ∨ i = 10 ∨ i = 11) with rfl | rfl | rfl | rfl | rfl | rfl | rfl | rfl | rfl | rfl | rfl | rfl
 all_goals rfl
def mtx (i : Nat) : ByteArray := ⟨#[35, 1, 0, 0, 47, UInt8.ofNat i, 0, 0]⟩
def markT (i : Nat) : List AV := [.v (.string (mtx i))]
theorem wf_mapS (n : Nat) (l : List ByteArray) : wfR n (l.map encS) = true := wfR_map _ (fun _ => rfl) l
@[go_sem] theorem wf_mksT (n k : Nat) : wfR n (mksN markT k) = true := wf_mksN n _ (fun _ => rfl) k
@[go_sem] theorem wf_marksT (n : Nat) : wfR n (marksOf markT) = true := wf_mksN n _ (fun _ => rfl) 12
set_option maxRecDepth 100000 in
set_option maxHeartbeats 2000000 in
theorem lentTexts_c (l : List ByteArray) (hl : l.length ≤ 1000000) :
  Call1 Try.prog 7 [.slc 1 (l.map encS) l.length] (.slc 1 (l.map encS ++ marksOf markT) l.length) := by
 have e1 : IntKind.i64.wrap ((l.length : Int) + 12) = ((l.length + 12 : Nat) : Int) := wrp12 hl
 have eT : List.take l.length (l.map encS) = l.map encS := by rw [List.take_of_length_le (by simp)]
 (refine Call1.enter Try.func7 rfl (by kernel_rfl) (by kernel_rfl) rfl (by first | rfl | (simp only [go_sem, Bool.and_self, Bool.and_true, Bool.true_and])) (by first | rfl | (simp only [go_sem, Bool.and_self, Bool.and_true, Bool.true_and])) ?_; simp only [Try.ntmps7, Try.results7, List.length_cons, List.length_nil, Nat.reduceAdd, Nat.reduceSub, List.replicate_succ, List.replicate_zero, List.cons_append, List.nil_append])
 repeat (first | (with_reducible first | refine Stp.up ?_ | refine fun (K : AK) hK => ?_ | (refine hK _ ?_; clear hK K)) | simp only [go_sem, e1, eT] | with_reducible refine wA ?_ | clear hK K)
 refine awp_loopF (ι := Nat) (fun i => [(0, .slc 1 (l.map encS) l.length), (2, .v (.slice none 0 0)), (3, .vec 0 (l.length + i)), (4, .v (.int .i64 i))]) (fun i => [some ⟨9, 1, true, l.map encS ++ mksN markT i⟩]) (fun i => 12 - i) (fun i => i ≤ 12) 0 (by omega) ?_ ?_
 ·(refine wk_mk ?_ ?_ ?_ <;> simp only [frm, List.foldl_cons, List.foldl_nil, List.replicate_succ, List.replicate_zero, WkT, WkO, AV.v.injEq, Value.int.injEq, Value.bool.injEq, Value.string.injEq, AV.vec.injEq, AV.ptr.injEq, true_or, or_true, false_or, or_false, AObj.mk.injEq, forall_eq_apply_imp_iff, forall_eq, forall_eq', go_sem])
  ·exact ⟨rfl, rfl⟩
  ·simp [mksN]
 ·intro i hi K hK
  simp only [frm, List.foldl_cons, List.foldl_nil, List.replicate_succ, List.replicate_zero, go_sem]
  repeat (first | (with_reducible first | refine Stp.up ?_ | refine fun (K : AK) hK => ?_ | (refine hK _ ?_; clear hK K)) | simp only [go_sem] | with_reducible refine wA ?_ | clear hK K)
  refine AIf.part (fun h2 => ?_) (fun h2 => ?_)
  ·have hlt : i < 12 := by (try simp only [bne_iff_ne, ne_eq, bne_eq_false_iff_eq, beq_iff_eq, beq_eq_false_iff_ne, decide_eq_true_eq, decide_eq_false_iff_not, Bool.not_eq_eq_eq_not, Int.natCast_inj, Int.ofNat_lt, Int.ofNat_le] at h2); omega
   have eW := wrap_succ (k := i) (by omega)
   have M := markText_c i (by omega)
   repeat (first | (with_reducible first | refine Stp.up ?_ | refine fun (K : AK) hK => ?_ | (refine hK _ ?_; clear hK K)) | simp only [go_sem, eW] | with_reducible refine wA ?_ | clear hK K)
   refine ACallV.one M ?_
   repeat (first | (with_reducible first | refine Stp.up ?_ | refine fun (K : AK) hK => ?_ | (refine hK _ ?_; clear hK K)) | simp only [go_sem, eW] | with_reducible refine wA ?_ | clear hK K)
   exact LNext.mk (i + 1) (by omega) (by omega) (by (refine wk_mk ?_ ?_ ?_ <;> simp only [frm, List.foldl_cons, List.foldl_nil, List.replicate_succ, List.replicate_zero, WkT, WkO, AV.v.injEq, Value.int.injEq, Value.bool.injEq, Value.string.injEq, AV.vec.injEq, AV.ptr.injEq, true_or, or_true, false_or, or_false, AObj.mk.injEq, forall_eq_apply_imp_iff, forall_eq, forall_eq', go_sem]) <;> rfl)
  ·have h12 : i = 12 := by (try simp only [bne_iff_ne, ne_eq, bne_eq_false_iff_eq, beq_iff_eq, beq_eq_false_iff_ne, decide_eq_true_eq, decide_eq_false_iff_not, Bool.not_eq_eq_eq_not, Int.natCast_inj, Int.ofNat_lt, Int.ofNat_le] at h2); omega
   have eM : mksN markT i = marksOf markT := by rw [h12]; rfl
   repeat (first | (with_reducible first | refine Stp.up ?_ | refine fun (K : AK) hK => ?_ | (refine hK _ ?_; clear hK K)) | simp only [go_sem, eM] | with_reducible refine wA ?_ | clear hK K)
   exact AFz.slc (by simp only [wfR_app, wf_mapS, wf_marksT, Bool.and_self])
set_option maxRecDepth 100000 in
set_option maxHeartbeats 4000000 in
theorem keptTexts_c (l : List ByteArray) (hl : l.length ≤ 1000000) :
  Call1 Try.prog 13 [.slc 1 (l.map encS ++ marksOf markT) l.length, .slc 1 (l.map encS) l.length] (.v (.bool true)) := by
 have e1 : IntKind.i64.wrap ((l.length : Int) + 12) = ((l.length + 12 : Nat) : Int) := wrp12 hl
 have w1 : wfR 0 (l.map encS ++ marksOf markT) = true := by simp only [wfR_app, wf_mapS, wf_marksT, Bool.and_self]
 (refine Call1.enter Try.func13 rfl (by kernel_rfl) (by kernel_rfl) rfl (by simp only [go_sem, wfL, AV.wf, Bool.and_self, Bool.and_true, Bool.true_and, w1, wf_mapS]) (by simp only [go_sem, wfL, AV.wf, wf_encS, Bool.and_self, Bool.and_true, Bool.true_and, w1, wf_mapS]) ?_; simp only [Try.ntmps13, Try.results13, List.length_cons, List.length_nil, Nat.reduceAdd, Nat.reduceSub, List.replicate_succ, List.replicate_zero, List.cons_append, List.nil_append])
 repeat (first | (with_reducible first | refine Stp.up ?_ | refine fun (K : AK) hK => ?_ | refine wD ?_ | (refine hK _ ?_; clear hK K)) | simp only [go_sem, e1] | with_reducible refine wA ?_ | clear hK K)
 refine awp_loopF (ι := Nat) (fun i => [(0, .slc 1 (l.map encS ++ marksOf markT) l.length), (1, .slc 1 (l.map encS) l.length), (4, .v (.bool false)), (5, .slc 1 (l.map encS ++ marksOf markT) (l.length + 12)), (6, .v (.int .i64 i))]) (fun _ => []) (fun i => l.length + 12 - i) (fun i => i ≤ l.length + 12) 0 (by omega) ?_ ?_
 ·(refine wk_mk ?_ ?_ ?_ <;> simp only [frm, List.foldl_cons, List.foldl_nil, List.replicate_succ, List.replicate_zero, WkT, WkO, AV.v.injEq, Value.int.injEq, Value.bool.injEq, Value.string.injEq, AV.vec.injEq, AV.ptr.injEq, true_or, or_true, false_or, or_false, AObj.mk.injEq, forall_eq_apply_imp_iff, forall_eq, forall_eq', go_sem])
  rfl
 ·intro i hi K hK
  simp only [frm, List.foldl_cons, List.foldl_nil, List.replicate_succ, List.replicate_zero, go_sem]
  repeat (first | (with_reducible first | refine Stp.up ?_ | refine fun (K : AK) hK => ?_ | refine wD ?_ | (refine hK _ ?_; clear hK K)) | simp only [go_sem] | with_reducible refine wA ?_ | clear hK K)
  refine AIf.part (fun h => ?_) (fun h => ?_)
  ·have hlt : i < l.length + 12 := by (try simp only [decide_eq_true_eq, decide_eq_false_iff_not, Int.ofNat_lt, Int.ofNat_le] at h); omega
   have eW := wrap_succ (k := i) (by omega)
   rcases Nat.lt_or_ge i l.length with q | q
   ·have g1 : decide ((i : Int) < (l.length : Int)) = true := by simpa using q
    have g2 : decide ((l.length : Int) ≤ (i : Int)) = false := by simpa using q
    have eG := gt_lt encS l (marksOf markT) i q
    have eH := getD_map encS l i [] q
    simp only [encS] at eG eH
    repeat (first | (with_reducible first | refine Stp.up ?_ | refine fun (K : AK) hK => ?_ | refine wD ?_ | (refine hK _ ?_; clear hK K)) | simp only [go_sem, g1, g2, eG, eH, eW, Go.undef] | with_reducible refine wA ?_ | clear hK K)
    exact LNext.mk (i + 1) (by omega) (by omega) (by (refine wk_mk ?_ ?_ ?_ <;> simp only [frm, List.foldl_cons, List.foldl_nil, List.replicate_succ, List.replicate_zero, WkT, WkO, AV.v.injEq, Value.int.injEq, Value.bool.injEq, Value.string.injEq, AV.vec.injEq, AV.ptr.injEq, true_or, or_true, false_or, or_false, AObj.mk.injEq, forall_eq_apply_imp_iff, forall_eq, forall_eq', go_sem]))
   ·obtain ⟨j, hj⟩ : ∃ j, i = l.length + j := ⟨i - l.length, by omega⟩
    have g1 : decide ((i : Int) < (l.length : Int)) = false := decide_eq_false (by omega)
    have g2 : decide ((l.length : Int) ≤ (i : Int)) = true := decide_eq_true (by omega)
    have eS : IntKind.i64.wrap ((i : Int) - (l.length : Int)) = (j : Int) := by rw [wrap_id (by omega) (by omega)]; omega
    have eG : (l.map encS ++ marksOf markT).getD i [] = markT j := by rw [hj]; exact gt_ge encS l markT j (by omega)
    have M := markText_c j (by omega)
    simp only [markT, mtx] at M eG
    repeat (first | (with_reducible first | refine Stp.up ?_ | refine fun (K : AK) hK => ?_ | refine wD ?_ | (refine hK _ ?_; clear hK K)) | simp only [go_sem, g1, g2, eG, eS, eW, Go.undef] | with_reducible refine wA ?_ | clear hK K)
    refine ACallS.one M ?_
    repeat (first | (with_reducible first | refine Stp.up ?_ | refine fun (K : AK) hK => ?_ | refine wD ?_ | (refine hK _ ?_; clear hK K)) | simp only [go_sem, g1, g2, eG, eS, eW, Go.undef] | with_reducible refine wA ?_ | clear hK K)
    exact LNext.mk (i + 1) (by omega) (by omega) (by (refine wk_mk ?_ ?_ ?_ <;> simp only [frm, List.foldl_cons, List.foldl_nil, List.replicate_succ, List.replicate_zero, WkT, WkO, AV.v.injEq, Value.int.injEq, Value.bool.injEq, Value.string.injEq, AV.vec.injEq, AV.ptr.injEq, true_or, or_true, false_or, or_false, AObj.mk.injEq, forall_eq_apply_imp_iff, forall_eq, forall_eq', go_sem]))
  ·repeat (first | (with_reducible first | refine Stp.up ?_ | refine fun (K : AK) hK => ?_ | refine wD ?_ | (refine hK _ ?_; clear hK K)) | simp only [go_sem] | with_reducible refine wA ?_ | clear hK K)
end Go.Proofs.Ytldnlbcibmmbbaa

namespace Go.Proofs.Ytldnlbcibmmbbaa
open Go.RowKit

theorem onceN_le : ∀ (l acc : List ByteArray), (l.foldl onceStep acc).length ≤ acc.length + l.length
 | [], acc => by simp
 | s :: l, acc => by
  simp only [List.foldl_cons, List.length_cons]
  have := onceN_le l (onceStep acc s)
  have h2 : (onceStep acc s).length ≤ acc.length + 1 := by unfold onceStep; split <;> simp
  omega
theorem onceN_nd : ∀ (l acc : List ByteArray), acc.Nodup → (l.foldl onceStep acc).length = acc.length + l.length → (acc ++ l).Nodup
 | [], acc, h, _ => by simpa using h
 | s :: l, acc, h, e => by
  simp only [List.foldl_cons, List.length_cons] at e
  by_cases hs : hasB acc s = true
  ·have e1 : onceStep acc s = acc := by rw [onceStep, if_pos hs]
   rw [e1] at e
   have := onceN_le l acc
   omega
  ·have e1 : onceStep acc s = acc ++ [s] := by rw [onceStep, if_neg hs]
   rw [e1] at e
   have hn : (acc ++ [s]).Nodup := List.nodup_append.2 ⟨h, by simp, fun x hx y hy e => hs (hasB_iff.2 (by simp at hy; rw [← hy, ← e]; exact hx))⟩
   have := onceN_nd l (acc ++ [s]) hn (by rw [e]; simp; omega)
   simpa using this
theorem onceN_same : ∀ (l acc : List ByteArray), (acc ++ l).Nodup → l.foldl onceStep acc = acc ++ l
 | [], acc, _ => by simp
 | s :: l, acc, h => by
  have hs : ¬ hasB acc s = true := fun hh => by
   have := (List.nodup_append.1 h).2.2 s (hasB_iff.1 hh) s (by simp)
   exact this rfl
  rw [List.foldl_cons, onceStep, if_neg hs, onceN_same l (acc ++ [s]) (by simpa using h)]
  simp
theorem onceN_iff (l : List ByteArray) : (onceL l).length = l.length ↔ l.Nodup := by
 constructor
 ·intro h
  have := onceN_nd l [] (by simp) (by simpa [onceL] using h)
  simpa using this
 ·intro h
  rw [onceL, onceN_same l [] (by simpa using h)]; simp
theorem onceN_lt {l : List ByteArray} (h : ¬ l.Nodup) : (onceL l).length < l.length := by
 have h1 := onceN_le l []
 have h2 : (onceL l).length ≠ l.length := fun e => h ((onceN_iff l).1 e)
 simp only [List.length_nil, Nat.zero_add] at h1
 unfold onceL at h2 ⊢
 omega
set_option maxRecDepth 100000 in
set_option maxHeartbeats 2000000 in
theorem renameErr_c (q : Qry) (a b : List ByteArray) (ha : a.length ≤ 1000000) (h : b.length ≠ a.length ∨ ¬ a.Nodup) :
  Call1 Try.prog 8 [.agg (encQ q), strsA a, strsA b] (.tup [.agg [.v (.slice none 0 0), .v (.slice none 0 0), .v (.slice none 0 0), .v (.int .i64 0), .v (.int .i64 0)], .v (.int .i64 2)]) := by
 have C1 := valuesT_c a
 have C2 := once_c (gf := 58) (caps := [.vp [strsA a]]) a ha (valuesT_seq a ha) (by simp only [wfL, AV.wf, strsA, wf_encS, Bool.and_self])
 obtain ⟨ps, cs, rs, ra, sl⟩ := q
 simp only [encQ, strsA] at C1 C2 ⊢
 by_cases hl : b.length = a.length
 ·have hd : decide (((onceL a).length : Int) < (a.length : Int)) = true := by
   have := onceN_lt (h.resolve_left (fun e => e hl))
   simp; omega
  have hl2 : ((a.length : Int) != (b.length : Int)) = false := by simp [hl]
  (refine Call1.enter Try.func8 rfl (by kernel_rfl) (by kernel_rfl) rfl (by first | rfl | (simp only [go_sem, Bool.and_self, Bool.and_true, Bool.true_and])) (by first | rfl | (simp only [go_sem, Bool.and_self, Bool.and_true, Bool.true_and])) ?_; simp only [Try.ntmps8, Try.results8, List.length_cons, List.length_nil, Nat.reduceAdd, Nat.reduceSub, List.replicate_succ, List.replicate_zero, List.cons_append, List.nil_append])
  repeat (first | (with_reducible first | refine Stp.up ?_ | refine fun (K : AK) hK => ?_ | (refine hK _ ?_; clear hK K)) | simp only [go_sem] | clear hK K)
  refine wD ?_
  repeat (first | (with_reducible first | refine Stp.up ?_ | refine fun (K : AK) hK => ?_ | (refine hK _ ?_; clear hK K)) | simp only [go_sem, hl2] | clear hK K)
  refine ACallS.one C1 ?_
  repeat (first | (with_reducible first | refine Stp.up ?_ | refine fun (K : AK) hK => ?_ | (refine hK _ ?_; clear hK K)) | simp only [go_sem] | clear hK K)
  refine ACallS.one C2 ?_
  repeat (first | (with_reducible first | refine Stp.up ?_ | refine fun (K : AK) hK => ?_ | refine wD ?_ | (refine hK _ ?_; clear hK K)) | simp only [go_sem, hd, hl2] | clear hK K)
  (refine AFz.of 40 rfl ?_; simp only [go_sem])
 ·have hl2 : ((a.length : Int) != (b.length : Int)) = true := by simp; omega
  (refine Call1.enter Try.func8 rfl (by kernel_rfl) (by kernel_rfl) rfl (by first | rfl | (simp only [go_sem, Bool.and_self, Bool.and_true, Bool.true_and])) (by first | rfl | (simp only [go_sem, Bool.and_self, Bool.and_true, Bool.true_and])) ?_; simp only [Try.ntmps8, Try.results8, List.length_cons, List.length_nil, Nat.reduceAdd, Nat.reduceSub, List.replicate_succ, List.replicate_zero, List.cons_append, List.nil_append])
  repeat (first | (with_reducible first | refine Stp.up ?_ | refine fun (K : AK) hK => ?_ | (refine hK _ ?_; clear hK K)) | simp only [go_sem] | clear hK K)
  refine wD ?_
  repeat (first | (with_reducible first | refine Stp.up ?_ | refine fun (K : AK) hK => ?_ | refine wD ?_ | (refine hK _ ?_; clear hK K)) | simp only [go_sem, hl2, Go.undef] | clear hK K)
  (refine AFz.of 40 rfl ?_; simp only [go_sem])
end Go.Proofs.Ytldnlbcibmmbbaa
