/- The statements' kit: what was lent is kept: the walks. Printed by gen_kept.py. -/
import Derived.Test.YtldnlbcibmmbbaaRRef11
import Derived.Test.YtldnlbcibmmbbaaRSame
import Derived.Test.YtldnlbcibmmbbaaRRef07b
set_option linter.unusedSimpArgs false
set_option linter.unusedVariables false
namespace Go.Proofs.Ytldnlbcibmmbbaa
open Go.RowKit

theorem sameExpr_c (x y : Ex) : Call1 Try.prog 81 [.agg (encE x), .agg (encE y)] (.v (.bool (exSame x y))) :=
 .of_ret (by kernel_rfl) (by simp only [wfL, AV.wf, wf_encE1, Bool.and_self]) (fun D nu w vargs h => by
  obtain ⟨a, b, rfl, ha, hb⟩ := ras_two h
  obtain ⟨ca, rfl, ka⟩ := ra_agg ha
  obtain ⟨cb, rfl, kb⟩ := ra_agg hb
  exact sameExpr_any x y ca cb w (rls_ex x ca ka) (rls_ex y cb kb))
theorem samePattern_c (x y : Pat) : Call1 Try.prog 65 [.agg (encP x), .agg (encP y)] (.v (.bool (patSame x y))) :=
 .of_ret (by kernel_rfl) (by simp only [wfL, AV.wf, wf_encP1, Bool.and_self]) (fun D nu w vargs h => by
  obtain ⟨a, b, rfl, ha, hb⟩ := ras_two h
  obtain ⟨ca, rfl, ka⟩ := ra_agg ha
  obtain ⟨cb, rfl, kb⟩ := ra_agg hb
  obtain ⟨k1, s1, l1, v1, e1, r1, rfl⟩ := rls_pat x ca ka
  obtain ⟨k2, s2, l2, v2, e2, r2, rfl⟩ := rls_pat y cb kb
  exact samePattern_any x y k1 s1 l1 v1 k2 s2 l2 v2 w e1 r1 e2 r2)
theorem exSame_refl (x : Ex) : exSame x x = true := (exSame_eq x x).2 rfl
theorem patSame_refl (x : Pat) : patSame x x = true := (patEq x x).2 rfl
theorem getD_lt {α : Type} (f : α → List AV) (l : List α) (m : List (List AV)) (i : Nat) (h : i < l.length) : (l.map f ++ m).getD i [] = f l[i] := by
 rw [List.getD_eq_getElem?_getD, List.getElem?_append_left (by simpa using h)]; simp [h]
theorem mksN_get (f : Nat → List AV) : ∀ n i, i < n → (mksN f n)[i]? = some (f i)
 | 0, i, h => absurd h (by omega)
 | n + 1, i, h => by
  rw [mksN]
  rcases Nat.lt_or_ge i n with q | q
  ·rw [List.getElem?_append_left (by rw [mksN_len]; exact q)]; exact mksN_get f n i q
  ·obtain rfl : i = n := by omega
   rw [List.getElem?_append_right (by rw [mksN_len]; exact Nat.le_refl _), mksN_len]; simp
theorem getD_ge {α : Type} (f : α → List AV) (l : List α) (m : Nat → List AV) (j : Nat) (h : j < 12) : (l.map f ++ marksOf m).getD (l.length + j) [] = m j := by
 rw [List.getD_eq_getElem?_getD, List.getElem?_append_right (by simp), List.length_map, Nat.add_sub_cancel_left, marksOf, mksN_get m 12 j h]; rfl
def exM (i : Nat) : Ex := .mk ((8000024 + i : Nat) : Int) ⟨#[]⟩ []
def patM (i : Nat) : Pat := ⟨⟨#[]⟩, ⟨#[]⟩, false, ⟨#[109]⟩, ⟨#[]⟩, exM i⟩
theorem le_markP (i : Nat) : LeL (markP i) (encP (patM i)) := .cons (.refl _) (.cons (.refl _) (.cons (.refl _) (.cons (.refl _) (.cons (.refl _) (.cons (.refl _) (.cons (.refl _) (.cons (.nil 3) .nil)))))))
set_option maxRecDepth 100000 in
set_option maxHeartbeats 4000000 in
theorem keptExprs_of (l : List Ex) (hl : l.length ≤ 1000000) (H : ∀ x, x ∈ l → Call1 Try.prog 80 [.agg (lentE x), .agg (encE x)] (.v (.bool true))) :
  Call1 Try.prog 94 [.slc 3 (l.map lentE ++ marksOf markE) l.length, .slc 3 (l.map encE) l.length] (.v (.bool true)) := by
 have e1 : IntKind.i64.wrap ((l.length : Int) + 12) = ((l.length + 12 : Nat) : Int) := wrap12 hl
 (refine Call1.enter Try.func94 rfl (by kernel_rfl) (by kernel_rfl) rfl (by first | rfl | (simp only [go_sem, Bool.and_self, Bool.and_true, Bool.true_and])) (by first | rfl | (simp only [go_sem, Bool.and_self, Bool.and_true, Bool.true_and])) ?_; simp only [Try.ntmps94, Try.results94, List.length_cons, List.length_nil, Nat.reduceAdd, Nat.reduceSub, List.replicate_succ, List.replicate_zero, List.cons_append, List.nil_append])
 repeat (first | (with_reducible first | refine Stp.up ?_ | refine fun (K : AK) hK => ?_ | refine wD ?_ | (refine hK _ ?_; clear hK K)) | simp only [go_sem, e1] | with_reducible refine wA ?_ | clear hK K)
 refine awp_loopF (ι := Nat) (fun i => [(0, .slc 3 (l.map lentE ++ marksOf markE) l.length), (1, .slc 3 (l.map encE) l.length), (4, .v (.bool false)), (5, .slc 3 (l.map lentE ++ marksOf markE) (l.length + 12)), (6, .v (.int .i64 i))]) (fun _ => []) (fun i => l.length + 12 - i) (fun i => i ≤ l.length + 12) 0 (by omega) ?_ ?_
 ·(refine wk_mk ?_ ?_ ?_ <;> simp only [frm, List.foldl_cons, List.foldl_nil, List.replicate_succ, List.replicate_zero, WkT, WkO, AV.v.injEq, Value.int.injEq, Value.bool.injEq, Value.string.injEq, AV.vec.injEq, AV.ptr.injEq, true_or, or_true, false_or, or_false, AObj.mk.injEq, forall_eq_apply_imp_iff, forall_eq, forall_eq', go_sem])
  rfl
 ·intro i hi K hK
  simp only [frm, List.foldl_cons, List.foldl_nil, List.replicate_succ, List.replicate_zero, go_sem]
  repeat (first | (with_reducible first | refine Stp.up ?_ | refine fun (K : AK) hK => ?_ | refine wD ?_ | (refine hK _ ?_; clear hK K)) | simp only [go_sem] | with_reducible refine wA ?_ | clear hK K)
  refine AIf.part (fun h => ?_) (fun h => ?_)
  ·have hlt : i < l.length + 12 := by (try simp only [bne_iff_ne, ne_eq, bne_eq_false_iff_eq, beq_iff_eq, beq_eq_false_iff_ne, decide_eq_true_eq, decide_eq_false_iff_not, Bool.not_eq_eq_eq_not, Int.natCast_inj, Int.ofNat_lt, Int.ofNat_le] at h); omega
   have eW := wrap_succ (k := i) (by omega)
   rcases Nat.lt_or_ge i l.length with q | q
   ·have g1 : decide ((i : Int) < (l.length : Int)) = true := by simpa using q
    have g2 : decide ((l.length : Int) ≤ (i : Int)) = false := by simpa using q
    have eG := getD_lt lentE l (marksOf markE) i q
    have eH := getD_map encE l i [] q
    have HX := H l[i] (List.getElem_mem q)
    simp only [encE_eq, lentE_eq] at HX eG eH
    repeat (first | (with_reducible first | refine Stp.up ?_ | refine fun (K : AK) hK => ?_ | refine wD ?_ | (refine hK _ ?_; clear hK K)) | simp only [go_sem, g1, g2, eG, eH] | with_reducible refine wA ?_ | clear hK K)
    refine ACallS.one HX ?_
    repeat (first | (with_reducible first | refine Stp.up ?_ | refine fun (K : AK) hK => ?_ | refine wD ?_ | (refine hK _ ?_; clear hK K)) | simp only [go_sem, g1, g2, eW, Go.undef] | with_reducible refine wA ?_ | clear hK K)
    exact LNext.mk (i + 1) (by omega) (by omega) (by (refine wk_mk ?_ ?_ ?_ <;> simp only [frm, List.foldl_cons, List.foldl_nil, List.replicate_succ, List.replicate_zero, WkT, WkO, AV.v.injEq, Value.int.injEq, Value.bool.injEq, Value.string.injEq, AV.vec.injEq, AV.ptr.injEq, true_or, or_true, false_or, or_false, AObj.mk.injEq, forall_eq_apply_imp_iff, forall_eq, forall_eq', go_sem]))
   ·obtain ⟨j, hj⟩ : ∃ j, i = l.length + j := ⟨i - l.length, by omega⟩
    have g1 : decide ((i : Int) < (l.length : Int)) = false := decide_eq_false (by omega)
    have g2 : decide ((l.length : Int) ≤ (i : Int)) = true := decide_eq_true (by omega)
    have eS : IntKind.i64.wrap ((i : Int) - (l.length : Int)) = (j : Int) := by rw [wrap_id (by omega) (by omega)]; omega
    have eG : (l.map lentE ++ marksOf markE).getD i [] = markE j := by rw [hj]; exact getD_ge lentE l markE j (by omega)
    have M := markExpr_c j (by omega)
    have S := (sameExpr_c (exM j) (exM j)).le (args' := [.agg (markE j), .agg (markE j)]) rfl (.cons (le_markE j).agg (.cons (le_markE j).agg .nil))
    rw [exSame_refl] at S
    simp only [markE, mk1] at M S eG
    repeat (first | (with_reducible first | refine Stp.up ?_ | refine fun (K : AK) hK => ?_ | refine wD ?_ | (refine hK _ ?_; clear hK K)) | simp only [go_sem, g1, g2, eG, eS, eW, Go.undef] | with_reducible refine wA ?_ | clear hK K)
    refine ACallS.one M ?_
    repeat (first | (with_reducible first | refine Stp.up ?_ | refine fun (K : AK) hK => ?_ | refine wD ?_ | (refine hK _ ?_; clear hK K)) | simp only [go_sem, g1, g2, eG, eS, eW, Go.undef] | with_reducible refine wA ?_ | clear hK K)
    refine ACallS.one S ?_
    repeat (first | (with_reducible first | refine Stp.up ?_ | refine fun (K : AK) hK => ?_ | refine wD ?_ | (refine hK _ ?_; clear hK K)) | simp only [go_sem, g1, g2, eG, eS, eW, Go.undef] | with_reducible refine wA ?_ | clear hK K)
    exact LNext.mk (i + 1) (by omega) (by omega) (by (refine wk_mk ?_ ?_ ?_ <;> simp only [frm, List.foldl_cons, List.foldl_nil, List.replicate_succ, List.replicate_zero, WkT, WkO, AV.v.injEq, Value.int.injEq, Value.bool.injEq, Value.string.injEq, AV.vec.injEq, AV.ptr.injEq, true_or, or_true, false_or, or_false, AObj.mk.injEq, forall_eq_apply_imp_iff, forall_eq, forall_eq', go_sem]))
  ·repeat (first | (with_reducible first | refine Stp.up ?_ | refine fun (K : AK) hK => ?_ | refine wD ?_ | (refine hK _ ?_; clear hK K)) | simp only [go_sem] | with_reducible refine wA ?_ | clear hK K)
set_option maxRecDepth 100000 in
set_option maxHeartbeats 4000000 in
theorem keptExpr_c (x : Ex) (hx : x.lens 1000000) : Call1 Try.prog 80 [.agg (lentE x), .agg (encE x)] (.v (.bool true)) := by
 induction x using Ex.ind with
 | h k s l ih =>
  have hk : ∀ y, y ∈ l → y.lens 1000000 := fun y hy z hz => hx z (by rw [exParts, exsParts_eq]; exact List.mem_cons_of_mem _ (List.mem_flatMap.2 ⟨y, hy, hz⟩))
  have C := keptExprs_of l (hx (.mk k s l) (by rw [exParts]; exact List.mem_cons_self)) (fun y hy => ih y hy (hk y hy))
  have S := (sameExpr_c (.mk k s l) (.mk k s l)).le (args' := [.agg (lentE (.mk k s l)), .agg (encE (.mk k s l))]) (by simp only [wfL, AV.wf, wf_lentE1, wf_encE1, Bool.and_self]) (.cons (le_lentE _).agg (.cons (.refl _) .nil))
  rw [exSame_refl] at S
  rw [encE_eq, lentE_eq] at S ⊢
  simp only [Ex.kind, Ex.label, Ex.kids] at S ⊢
  (refine Call1.enter Try.func80 rfl (by kernel_rfl) (by kernel_rfl) rfl (by first | rfl | (simp only [go_sem, Bool.and_self, Bool.and_true, Bool.true_and])) (by first | rfl | (simp only [go_sem, Bool.and_self, Bool.and_true, Bool.true_and])) ?_; simp only [Try.ntmps80, Try.results80, List.length_cons, List.length_nil, Nat.reduceAdd, Nat.reduceSub, List.replicate_succ, List.replicate_zero, List.cons_append, List.nil_append])
  repeat (first | (with_reducible first | refine Stp.up ?_ | refine fun (K : AK) hK => ?_ | (refine hK _ ?_; clear hK K)) | simp only [go_sem] | with_reducible refine wA ?_ | clear hK K)
  refine ACallV.one S ?_
  repeat (first | (with_reducible first | refine Stp.up ?_ | refine fun (K : AK) hK => ?_ | (refine hK _ ?_; clear hK K)) | simp only [go_sem] | with_reducible refine wA ?_ | clear hK K)
  refine ACallV.one C ?_
  repeat (first | (with_reducible first | refine Stp.up ?_ | refine fun (K : AK) hK => ?_ | (refine hK _ ?_; clear hK K)) | simp only [go_sem] | with_reducible refine wA ?_ | clear hK K)
set_option maxRecDepth 100000 in
set_option maxHeartbeats 4000000 in
theorem keptPattern_c (p : Pat) (hx : p.expr.lens 1000000) : Call1 Try.prog 64 [.agg (lentP p), .agg (encP p)] (.v (.bool true)) := by
 have C := keptExpr_c p.expr hx
 have S := (samePattern_c p p).le (args' := [.agg (lentP p), .agg (encP p)]) (by simp only [wfL, AV.wf, wf_lentP1, wf_encP1, Bool.and_self]) (.cons (le_lentP _).agg (.cons (.refl _) .nil))
 rw [patSame_refl] at S
 simp only [encE_eq, lentE_eq] at C
 simp only [encP, lentP] at S ⊢
 (refine Call1.enter Try.func64 rfl (by kernel_rfl) (by kernel_rfl) rfl (by first | rfl | (simp only [go_sem, Bool.and_self, Bool.and_true, Bool.true_and])) (by first | rfl | (simp only [go_sem, Bool.and_self, Bool.and_true, Bool.true_and])) ?_; simp only [Try.ntmps64, Try.results64, List.length_cons, List.length_nil, Nat.reduceAdd, Nat.reduceSub, List.replicate_succ, List.replicate_zero, List.cons_append, List.nil_append])
 repeat (first | (with_reducible first | refine Stp.up ?_ | refine fun (K : AK) hK => ?_ | (refine hK _ ?_; clear hK K)) | simp only [go_sem] | clear hK K)
 refine ACallV.one S ?_
 repeat (first | (with_reducible first | refine Stp.up ?_ | refine fun (K : AK) hK => ?_ | (refine hK _ ?_; clear hK K)) | simp only [go_sem] | clear hK K)
 refine ACallV.one C ?_
 repeat (first | (with_reducible first | refine Stp.up ?_ | refine fun (K : AK) hK => ?_ | (refine hK _ ?_; clear hK K)) | simp only [go_sem] | clear hK K)
set_option maxRecDepth 100000 in
set_option maxHeartbeats 4000000 in
theorem keptPatterns_c (l : List Pat) (hl : l.length ≤ 1000000) (hx : ∀ p, p ∈ l → p.expr.lens 1000000) :
  Call1 Try.prog 38 [.slc 8 (l.map lentP ++ marksOf markP) l.length, .slc 8 (l.map encP) l.length] (.v (.bool true)) := by
 have e1 : IntKind.i64.wrap ((l.length : Int) + 12) = ((l.length + 12 : Nat) : Int) := wrap12 hl
 (refine Call1.enter Try.func38 rfl (by kernel_rfl) (by kernel_rfl) rfl (by first | rfl | (simp only [go_sem, Bool.and_self, Bool.and_true, Bool.true_and])) (by first | rfl | (simp only [go_sem, Bool.and_self, Bool.and_true, Bool.true_and])) ?_; simp only [Try.ntmps38, Try.results38, List.length_cons, List.length_nil, Nat.reduceAdd, Nat.reduceSub, List.replicate_succ, List.replicate_zero, List.cons_append, List.nil_append])
 repeat (first | (with_reducible first | refine Stp.up ?_ | refine fun (K : AK) hK => ?_ | refine wD ?_ | (refine hK _ ?_; clear hK K)) | simp only [go_sem, e1] | with_reducible refine wA ?_ | clear hK K)
 refine awp_loopF (ι := Nat) (fun i => [(0, .slc 8 (l.map lentP ++ marksOf markP) l.length), (1, .slc 8 (l.map encP) l.length), (4, .v (.bool false)), (5, .slc 8 (l.map lentP ++ marksOf markP) (l.length + 12)), (6, .v (.int .i64 i))]) (fun _ => []) (fun i => l.length + 12 - i) (fun i => i ≤ l.length + 12) 0 (by omega) ?_ ?_
 ·(refine wk_mk ?_ ?_ ?_ <;> simp only [frm, List.foldl_cons, List.foldl_nil, List.replicate_succ, List.replicate_zero, WkT, WkO, AV.v.injEq, Value.int.injEq, Value.bool.injEq, Value.string.injEq, AV.vec.injEq, AV.ptr.injEq, true_or, or_true, false_or, or_false, AObj.mk.injEq, forall_eq_apply_imp_iff, forall_eq, forall_eq', go_sem])
  rfl
 ·intro i hi K hK
  simp only [frm, List.foldl_cons, List.foldl_nil, List.replicate_succ, List.replicate_zero, go_sem]
  repeat (first | (with_reducible first | refine Stp.up ?_ | refine fun (K : AK) hK => ?_ | refine wD ?_ | (refine hK _ ?_; clear hK K)) | simp only [go_sem] | with_reducible refine wA ?_ | clear hK K)
  refine AIf.part (fun h => ?_) (fun h => ?_)
  ·have hlt : i < l.length + 12 := by (try simp only [decide_eq_true_eq, decide_eq_false_iff_not, Int.ofNat_lt, Int.ofNat_le] at h); omega
   have eW := wrap_succ (k := i) (by omega)
   rcases Nat.lt_or_ge i l.length with q | q
   ·have g1 : decide ((i : Int) < (l.length : Int)) = true := by simpa using q
    have g2 : decide ((l.length : Int) ≤ (i : Int)) = false := by simpa using q
    have eG := getD_lt lentP l (marksOf markP) i q
    have eH := getD_map encP l i [] q
    have HX := keptPattern_c l[i] (hx _ (List.getElem_mem q))
    simp only [encP, lentP] at HX eG eH
    repeat (first | (with_reducible first | refine Stp.up ?_ | refine fun (K : AK) hK => ?_ | refine wD ?_ | (refine hK _ ?_; clear hK K)) | simp only [go_sem, g1, g2, eG, eH] | with_reducible refine wA ?_ | clear hK K)
    refine ACallS.one HX ?_
    repeat (first | (with_reducible first | refine Stp.up ?_ | refine fun (K : AK) hK => ?_ | refine wD ?_ | (refine hK _ ?_; clear hK K)) | simp only [go_sem, g1, g2, eW, Go.undef] | with_reducible refine wA ?_ | clear hK K)
    exact LNext.mk (i + 1) (by omega) (by omega) (by (refine wk_mk ?_ ?_ ?_ <;> simp only [frm, List.foldl_cons, List.foldl_nil, List.replicate_succ, List.replicate_zero, WkT, WkO, AV.v.injEq, Value.int.injEq, Value.bool.injEq, Value.string.injEq, AV.vec.injEq, AV.ptr.injEq, true_or, or_true, false_or, or_false, AObj.mk.injEq, forall_eq_apply_imp_iff, forall_eq, forall_eq', go_sem]))
   ·obtain ⟨j, hj⟩ : ∃ j, i = l.length + j := ⟨i - l.length, by omega⟩
    have g1 : decide ((i : Int) < (l.length : Int)) = false := decide_eq_false (by omega)
    have g2 : decide ((l.length : Int) ≤ (i : Int)) = true := decide_eq_true (by omega)
    have eS : IntKind.i64.wrap ((i : Int) - (l.length : Int)) = (j : Int) := by rw [wrap_id (by omega) (by omega)]; omega
    have eG : (l.map lentP ++ marksOf markP).getD i [] = markP j := by rw [hj]; exact getD_ge lentP l markP j (by omega)
    have M := markP_c j (by omega)
    have S := (samePattern_c (patM j) (patM j)).le (args' := [.agg (markP j), .agg (markP j)]) rfl (.cons (le_markP j).agg (.cons (le_markP j).agg .nil))
    rw [patSame_refl] at S
    simp only [markP, mk1] at M S eG
    repeat (first | (with_reducible first | refine Stp.up ?_ | refine fun (K : AK) hK => ?_ | refine wD ?_ | (refine hK _ ?_; clear hK K)) | simp only [go_sem, g1, g2, eG, eS, eW, Go.undef] | with_reducible refine wA ?_ | clear hK K)
    refine ACallS.one M ?_
    repeat (first | (with_reducible first | refine Stp.up ?_ | refine fun (K : AK) hK => ?_ | refine wD ?_ | (refine hK _ ?_; clear hK K)) | simp only [go_sem, g1, g2, eG, eS, eW, Go.undef] | with_reducible refine wA ?_ | clear hK K)
    refine ACallS.one S ?_
    repeat (first | (with_reducible first | refine Stp.up ?_ | refine fun (K : AK) hK => ?_ | refine wD ?_ | (refine hK _ ?_; clear hK K)) | simp only [go_sem, g1, g2, eG, eS, eW, Go.undef] | with_reducible refine wA ?_ | clear hK K)
    exact LNext.mk (i + 1) (by omega) (by omega) (by (refine wk_mk ?_ ?_ ?_ <;> simp only [frm, List.foldl_cons, List.foldl_nil, List.replicate_succ, List.replicate_zero, WkT, WkO, AV.v.injEq, Value.int.injEq, Value.bool.injEq, Value.string.injEq, AV.vec.injEq, AV.ptr.injEq, true_or, or_true, false_or, or_false, AObj.mk.injEq, forall_eq_apply_imp_iff, forall_eq, forall_eq', go_sem]))
  ·repeat (first | (with_reducible first | refine Stp.up ?_ | refine fun (K : AK) hK => ?_ | refine wD ?_ | (refine hK _ ?_; clear hK K)) | simp only [go_sem] | with_reducible refine wA ?_ | clear hK K)
set_option maxRecDepth 100000 in
set_option maxHeartbeats 4000000 in
theorem keptC_c (l : List Cnd) (hl : l.length ≤ 1000000) :
  Call1 Try.prog 39 [.slc 13 (l.map encC ++ marksOf markC) l.length, .slc 13 (l.map encC) l.length] (.v (.bool true)) := by
 have e1 : IntKind.i64.wrap ((l.length : Int) + 12) = ((l.length + 12 : Nat) : Int) := wrap12 hl
 (refine Call1.enter Try.func39 rfl (by kernel_rfl) (by kernel_rfl) rfl (by first | rfl | (simp only [go_sem, Bool.and_self, Bool.and_true, Bool.true_and])) (by first | rfl | (simp only [go_sem, Bool.and_self, Bool.and_true, Bool.true_and])) ?_; simp only [Try.ntmps39, Try.results39, List.length_cons, List.length_nil, Nat.reduceAdd, Nat.reduceSub, List.replicate_succ, List.replicate_zero, List.cons_append, List.nil_append])
 repeat (first | (with_reducible first | refine Stp.up ?_ | refine fun (K : AK) hK => ?_ | refine wD ?_ | (refine hK _ ?_; clear hK K)) | simp only [go_sem, e1] | with_reducible refine wA ?_ | clear hK K)
 refine awp_loopF (ι := Nat) (fun i => [(0, .slc 13 (l.map encC ++ marksOf markC) l.length), (1, .slc 13 (l.map encC) l.length), (4, .v (.bool false)), (5, .slc 13 (l.map encC ++ marksOf markC) (l.length + 12)), (6, .v (.int .i64 i))]) (fun _ => []) (fun i => l.length + 12 - i) (fun i => i ≤ l.length + 12) 0 (by omega) ?_ ?_
 ·(refine wk_mk ?_ ?_ ?_ <;> simp only [frm, List.foldl_cons, List.foldl_nil, List.replicate_succ, List.replicate_zero, WkT, WkO, AV.v.injEq, Value.int.injEq, Value.bool.injEq, Value.string.injEq, AV.vec.injEq, AV.ptr.injEq, true_or, or_true, false_or, or_false, AObj.mk.injEq, forall_eq_apply_imp_iff, forall_eq, forall_eq', go_sem])
  rfl
 ·intro i hi K hK
  simp only [frm, List.foldl_cons, List.foldl_nil, List.replicate_succ, List.replicate_zero, go_sem]
  repeat (first | (with_reducible first | refine Stp.up ?_ | refine fun (K : AK) hK => ?_ | refine wD ?_ | (refine hK _ ?_; clear hK K)) | simp only [go_sem] | with_reducible refine wA ?_ | clear hK K)
  refine AIf.part (fun h => ?_) (fun h => ?_)
  ·have hlt : i < l.length + 12 := by (try simp only [decide_eq_true_eq, decide_eq_false_iff_not, Int.ofNat_lt, Int.ofNat_le] at h); omega
   have eW := wrap_succ (k := i) (by omega)
   rcases Nat.lt_or_ge i l.length with q | q
   ·have g1 : decide ((i : Int) < (l.length : Int)) = true := by simpa using q
    have g2 : decide ((l.length : Int) ≤ (i : Int)) = false := by simpa using q
    have eG := getD_lt encC l (marksOf markC) i q
    have eH := getD_map encC l i [] q
    simp only [encC] at eG eH
    repeat (first | (with_reducible first | refine Stp.up ?_ | refine fun (K : AK) hK => ?_ | refine wD ?_ | (refine hK _ ?_; clear hK K)) | simp only [go_sem, g1, g2, eG, eH, eW, Go.undef] | with_reducible refine wA ?_ | clear hK K)
    exact LNext.mk (i + 1) (by omega) (by omega) (by (refine wk_mk ?_ ?_ ?_ <;> simp only [frm, List.foldl_cons, List.foldl_nil, List.replicate_succ, List.replicate_zero, WkT, WkO, AV.v.injEq, Value.int.injEq, Value.bool.injEq, Value.string.injEq, AV.vec.injEq, AV.ptr.injEq, true_or, or_true, false_or, or_false, AObj.mk.injEq, forall_eq_apply_imp_iff, forall_eq, forall_eq', go_sem]))
   ·obtain ⟨j, hj⟩ : ∃ j, i = l.length + j := ⟨i - l.length, by omega⟩
    have g1 : decide ((i : Int) < (l.length : Int)) = false := decide_eq_false (by omega)
    have g2 : decide ((l.length : Int) ≤ (i : Int)) = true := decide_eq_true (by omega)
    have eS : IntKind.i64.wrap ((i : Int) - (l.length : Int)) = (j : Int) := by rw [wrap_id (by omega) (by omega)]; omega
    have eG : (l.map encC ++ marksOf markC).getD i [] = markC j := by rw [hj]; exact getD_ge encC l markC j (by omega)
    have M := markC_c j (by omega)
    simp only [markC, mk1] at M eG
    repeat (first | (with_reducible first | refine Stp.up ?_ | refine fun (K : AK) hK => ?_ | refine wD ?_ | (refine hK _ ?_; clear hK K)) | simp only [go_sem, g1, g2, eG, eS, eW, Go.undef] | with_reducible refine wA ?_ | clear hK K)
    refine ACallS.one M ?_
    repeat (first | (with_reducible first | refine Stp.up ?_ | refine fun (K : AK) hK => ?_ | refine wD ?_ | (refine hK _ ?_; clear hK K)) | simp only [go_sem, g1, g2, eG, eS, eW, Go.undef] | with_reducible refine wA ?_ | clear hK K)
    exact LNext.mk (i + 1) (by omega) (by omega) (by (refine wk_mk ?_ ?_ ?_ <;> simp only [frm, List.foldl_cons, List.foldl_nil, List.replicate_succ, List.replicate_zero, WkT, WkO, AV.v.injEq, Value.int.injEq, Value.bool.injEq, Value.string.injEq, AV.vec.injEq, AV.ptr.injEq, true_or, or_true, false_or, or_false, AObj.mk.injEq, forall_eq_apply_imp_iff, forall_eq, forall_eq', go_sem]))
  ·repeat (first | (with_reducible first | refine Stp.up ?_ | refine fun (K : AK) hK => ?_ | refine wD ?_ | (refine hK _ ?_; clear hK K)) | simp only [go_sem] | with_reducible refine wA ?_ | clear hK K)
set_option maxRecDepth 100000 in
set_option maxHeartbeats 4000000 in
theorem keptO_c (l : List Opd) (hl : l.length ≤ 1000000) :
  Call1 Try.prog 40 [.slc 6 (l.map encO ++ marksOf markO) l.length, .slc 6 (l.map encO) l.length] (.v (.bool true)) := by
 have e1 : IntKind.i64.wrap ((l.length : Int) + 12) = ((l.length + 12 : Nat) : Int) := wrap12 hl
 (refine Call1.enter Try.func40 rfl (by kernel_rfl) (by kernel_rfl) rfl (by first | rfl | (simp only [go_sem, Bool.and_self, Bool.and_true, Bool.true_and])) (by first | rfl | (simp only [go_sem, Bool.and_self, Bool.and_true, Bool.true_and])) ?_; simp only [Try.ntmps40, Try.results40, List.length_cons, List.length_nil, Nat.reduceAdd, Nat.reduceSub, List.replicate_succ, List.replicate_zero, List.cons_append, List.nil_append])
 repeat (first | (with_reducible first | refine Stp.up ?_ | refine fun (K : AK) hK => ?_ | refine wD ?_ | (refine hK _ ?_; clear hK K)) | simp only [go_sem, e1] | with_reducible refine wA ?_ | clear hK K)
 refine awp_loopF (ι := Nat) (fun i => [(0, .slc 6 (l.map encO ++ marksOf markO) l.length), (1, .slc 6 (l.map encO) l.length), (4, .v (.bool false)), (5, .slc 6 (l.map encO ++ marksOf markO) (l.length + 12)), (6, .v (.int .i64 i))]) (fun _ => []) (fun i => l.length + 12 - i) (fun i => i ≤ l.length + 12) 0 (by omega) ?_ ?_
 ·(refine wk_mk ?_ ?_ ?_ <;> simp only [frm, List.foldl_cons, List.foldl_nil, List.replicate_succ, List.replicate_zero, WkT, WkO, AV.v.injEq, Value.int.injEq, Value.bool.injEq, Value.string.injEq, AV.vec.injEq, AV.ptr.injEq, true_or, or_true, false_or, or_false, AObj.mk.injEq, forall_eq_apply_imp_iff, forall_eq, forall_eq', go_sem])
  rfl
 ·intro i hi K hK
  simp only [frm, List.foldl_cons, List.foldl_nil, List.replicate_succ, List.replicate_zero, go_sem]
  repeat (first | (with_reducible first | refine Stp.up ?_ | refine fun (K : AK) hK => ?_ | refine wD ?_ | (refine hK _ ?_; clear hK K)) | simp only [go_sem] | with_reducible refine wA ?_ | clear hK K)
  refine AIf.part (fun h => ?_) (fun h => ?_)
  ·have hlt : i < l.length + 12 := by (try simp only [decide_eq_true_eq, decide_eq_false_iff_not, Int.ofNat_lt, Int.ofNat_le] at h); omega
   have eW := wrap_succ (k := i) (by omega)
   rcases Nat.lt_or_ge i l.length with q | q
   ·have g1 : decide ((i : Int) < (l.length : Int)) = true := by simpa using q
    have g2 : decide ((l.length : Int) ≤ (i : Int)) = false := by simpa using q
    have eG := getD_lt encO l (marksOf markO) i q
    have eH := getD_map encO l i [] q
    simp only [encO] at eG eH
    repeat (first | (with_reducible first | refine Stp.up ?_ | refine fun (K : AK) hK => ?_ | refine wD ?_ | (refine hK _ ?_; clear hK K)) | simp only [go_sem, g1, g2, eG, eH, eW, Go.undef] | with_reducible refine wA ?_ | clear hK K)
    exact LNext.mk (i + 1) (by omega) (by omega) (by (refine wk_mk ?_ ?_ ?_ <;> simp only [frm, List.foldl_cons, List.foldl_nil, List.replicate_succ, List.replicate_zero, WkT, WkO, AV.v.injEq, Value.int.injEq, Value.bool.injEq, Value.string.injEq, AV.vec.injEq, AV.ptr.injEq, true_or, or_true, false_or, or_false, AObj.mk.injEq, forall_eq_apply_imp_iff, forall_eq, forall_eq', go_sem]))
   ·obtain ⟨j, hj⟩ : ∃ j, i = l.length + j := ⟨i - l.length, by omega⟩
    have g1 : decide ((i : Int) < (l.length : Int)) = false := decide_eq_false (by omega)
    have g2 : decide ((l.length : Int) ≤ (i : Int)) = true := decide_eq_true (by omega)
    have eS : IntKind.i64.wrap ((i : Int) - (l.length : Int)) = (j : Int) := by rw [wrap_id (by omega) (by omega)]; omega
    have eG : (l.map encO ++ marksOf markO).getD i [] = markO j := by rw [hj]; exact getD_ge encO l markO j (by omega)
    have M := markO_c j (by omega)
    simp only [markO, mk1] at M eG
    repeat (first | (with_reducible first | refine Stp.up ?_ | refine fun (K : AK) hK => ?_ | refine wD ?_ | (refine hK _ ?_; clear hK K)) | simp only [go_sem, g1, g2, eG, eS, eW, Go.undef] | with_reducible refine wA ?_ | clear hK K)
    refine ACallS.one M ?_
    repeat (first | (with_reducible first | refine Stp.up ?_ | refine fun (K : AK) hK => ?_ | refine wD ?_ | (refine hK _ ?_; clear hK K)) | simp only [go_sem, g1, g2, eG, eS, eW, Go.undef] | with_reducible refine wA ?_ | clear hK K)
    exact LNext.mk (i + 1) (by omega) (by omega) (by (refine wk_mk ?_ ?_ ?_ <;> simp only [frm, List.foldl_cons, List.foldl_nil, List.replicate_succ, List.replicate_zero, WkT, WkO, AV.v.injEq, Value.int.injEq, Value.bool.injEq, Value.string.injEq, AV.vec.injEq, AV.ptr.injEq, true_or, or_true, false_or, or_false, AObj.mk.injEq, forall_eq_apply_imp_iff, forall_eq, forall_eq', go_sem]))
  ·repeat (first | (with_reducible first | refine Stp.up ?_ | refine fun (K : AK) hK => ?_ | refine wD ?_ | (refine hK _ ?_; clear hK K)) | simp only [go_sem] | with_reducible refine wA ?_ | clear hK K)
theorem sameQuery_lent (q : Qry) : Call1 Try.prog 37 [.agg (lentQ q), .agg (encQ q)] (.v (.bool true)) := by
 have S : Call1 Try.prog 37 [.agg (encQ q), .agg (encQ q)] (.v (.bool (qrySame q q))) :=
  .of_ret (by kernel_rfl) (by simp only [wfL, AV.wf, wf_encQ, Bool.and_self]) (fun D nu w vargs h => by
   obtain ⟨x, y, rfl, hx, hy⟩ := ras_two h
   obtain ⟨cx, rfl, kx⟩ := ra_qry hx
   obtain ⟨cy, rfl, ky⟩ := ra_qry hy
   exact sameQuery_any q q cx cy w kx ky)
 rw [qrySame_refl] at S
 exact S.le (by simp only [wfL, AV.wf, wf_lentQ, wf_encQ, Bool.and_self]) (.cons (le_lentQ q).agg (.cons (.refl _) .nil))
set_option maxRecDepth 100000 in
set_option maxHeartbeats 4000000 in
theorem keptQuery_c (q : Qry) (h : q.lens 1000000) : Call1 Try.prog 12 [.agg (lentQ q), .agg (encQ q)] (.v (.bool true)) := by
 have S := sameQuery_lent q
 have C1 := keptPatterns_c q.pats h.1 h.2.2.2
 have C2 := keptC_c q.conds h.2.1
 have C3 := keptO_c q.ret h.2.2.1
 simp only [encQ, lentQ] at S ⊢
 (refine Call1.enter Try.func12 rfl (by kernel_rfl) (by kernel_rfl) rfl (by first | rfl | (simp only [go_sem, Bool.and_self, Bool.and_true, Bool.true_and])) (by first | rfl | (simp only [go_sem, Bool.and_self, Bool.and_true, Bool.true_and])) ?_; simp only [Try.ntmps12, Try.results12, List.length_cons, List.length_nil, Nat.reduceAdd, Nat.reduceSub, List.replicate_succ, List.replicate_zero, List.cons_append, List.nil_append])
 repeat (first | (with_reducible first | refine Stp.up ?_ | refine fun (K : AK) hK => ?_ | (refine hK _ ?_; clear hK K)) | simp only [go_sem] | clear hK K)
 refine ACallV.one S ?_
 repeat (first | (with_reducible first | refine Stp.up ?_ | refine fun (K : AK) hK => ?_ | (refine hK _ ?_; clear hK K)) | simp only [go_sem] | clear hK K)
 refine ACallV.one C1 ?_
 repeat (first | (with_reducible first | refine Stp.up ?_ | refine fun (K : AK) hK => ?_ | (refine hK _ ?_; clear hK K)) | simp only [go_sem] | clear hK K)
 refine ACallV.one C2 ?_
 repeat (first | (with_reducible first | refine Stp.up ?_ | refine fun (K : AK) hK => ?_ | (refine hK _ ?_; clear hK K)) | simp only [go_sem] | clear hK K)
 refine ACallV.one C3 ?_
 repeat (first | (with_reducible first | refine Stp.up ?_ | refine fun (K : AK) hK => ?_ | (refine hK _ ?_; clear hK K)) | simp only [go_sem] | clear hK K)
end Go.Proofs.Ytldnlbcibmmbbaa
