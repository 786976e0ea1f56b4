/- The document's queries (ref11): the walks. -/
import Derived.Test.YteihcfhdhkamfaaERef07b
import Derived.Test.YteihcfhdhkamfaaEAbsZ
import Derived.Test.YteihcfhdhkamfaaETreeD
import Derived.Test.YteihcfhdhkamfaaELe
set_option linter.unusedSimpArgs false
set_option linter.unusedVariables false
namespace Go.Proofs.Yteihcfhdhkamfaa
open Go.RowKit

theorem all_take_succ {α : Type} (f : α → Bool) (l : List α) (i : Nat) (h : i < l.length) : (l.take (i + 1)).all f = ((l.take i).all f && f l[i]) := by
  rw [List.take_succ_eq_append_getElem h, List.all_append]; simp
theorem all_no {α : Type} {f : α → Bool} {l : List α} {i : Nat} (h : i < l.length) (hf : f l[i] = false) : l.all f = false := by
  rw [← Bool.not_eq_true, List.all_eq_true]
  intro hh
  rw [hh _ (List.getElem_mem h)] at hf; cases hf

set_option maxRecDepth 100000 in
set_option maxHeartbeats 4000000 in
theorem operand11_c (o : Opd) (h : o.ok) : Call1 Try.prog 19 [.agg (encO o)] (.v (.bool (opdRight o))) := by
  obtain ⟨kd, nm, ky, vk, vn, vt⟩ := o
  obtain ⟨o1, o2, o3⟩ := h
  simp only [okT, Val.ok] at o1 o2 o3
  have F1 := free02_c nm (by omega)
  have F2 := free02_c ky (by omega)
  have R := right05_c ⟨vk, vn, vt⟩ (by simp only; omega)
  simp only [encV] at R
  simp only [encO]
  (refine Call1.enter Try.func19 rfl (by kernel_rfl) (by kernel_rfl) rfl (by first | rfl | (simp only [go_sem, Bool.and_self, Bool.and_true, Bool.true_and])) (by first | rfl | (simp only [go_sem, Bool.and_self, Bool.and_true, Bool.true_and])) ?_; simp only [Try.ntmps19, Try.results19, List.length_cons, List.length_nil, Nat.reduceAdd, Nat.reduceSub, List.replicate_succ, List.replicate_zero, List.cons_append, List.nil_append])
  repeat' (first | (with_reducible first | refine Stp.up ?_ | refine fun (K : AS → Prop) hK => ?_ | refine awp_drawE (by decide +kernel) (by kernel_rfl) ?_ | refine awp_draw (by kernel_rfl) (by decide) ?_ | refine awp_boxes (by kernel_rfl) (by kernel_rfl) (by kernel_rfl) ?_ | refine adrawE_k (by decide) ?_ | refine adrawE_eff (by decide) ?_ | refine abox_plain (by decide) ?_ | refine abox_al ?_ | refine abox_st ?_) | (with_reducible refine hK _ ?_; clear hK; clear K) | simp only [go_sem, Nat.reduceAdd, Nat.reduceSub, Nat.reduceMul, Nat.reduceLeDiff, Nat.reduceEqDiff, Nat.reduceLT, Int.reduceToNat, ↓reduceIte, reduceCtorEq, Int.reduceLE, Int.reduceLT, Int.reduceNeg, Int.reduceEq, Int.reduceBEq, Int.reduceBNe, Go.undef, noB_is] | (with_reducible refine And.intro (by omega) ?_) | (clear hK; clear K) | (with_reducible refine ACallV.one (by assumption) ?_) | (with_reducible refine ACallS.one (by assumption) ?_) | (refine AIf.part (fun hb => ?_) (fun hb => ?_) <;> simp only [hb, go_sem, Nat.reduceAdd, Nat.reduceSub, Nat.reduceMul, Nat.reduceLeDiff, Nat.reduceEqDiff, Nat.reduceLT, Int.reduceToNat, ↓reduceIte, reduceCtorEq, Int.reduceLE, Int.reduceLT, Int.reduceNeg, Int.reduceEq, Int.reduceBEq, Int.reduceBNe, Go.undef, noB_is]) | (refine AIf.part (fun hb => ?_) (fun hb => ?_)) | (with_reducible refine ABoth.mk ?_ ?_))
  all_goals simp_all [opdRight, Val.none, Bool.and_assoc]
set_option maxRecDepth 100000 in
set_option maxHeartbeats 4000000 in
theorem pattern11_c (p : Pat) (h : p.ok) (h1 : (exParts p.expr).length ≤ 1000000) (hz : ∀ z, z ∈ exParts p.expr → z.kids.length ≤ 1000000 ∧ z.label.size ≤ 1000000000000000) :
    Call1 Try.prog 61 [.agg (encP p)] (.v (.bool (patRight p))) := by
  obtain ⟨fr, to, pa, lb, nm, x⟩ := p
  obtain ⟨o1, o2, o3, o4, o5⟩ := h
  simp only [okT] at o1 o2 o3 o4
  simp only at h1 hz
  have F1 := free02_c fr (by omega)
  have F2 := free02_c to (by omega)
  have F3 := free02_c lb (by omega)
  have F4 := free02_c nm (by omega)
  have R := right07_c x h1 hz
  have S := same07_c x (.mk 0 ⟨#[]⟩ []) (hz x (by obtain ⟨k, s, l⟩ := x; rw [exParts]; exact List.mem_cons_self)).1 (fun z hz' => (hz z hz').1)
  have S := S.le (args' := [.agg (encE x), .agg [.v (.int .i64 0), .v (.string ⟨#[]⟩), .v (.slice none 0 0)]]) (by simp only [wfL, AV.wf, wf_encE1, Bool.and_self]) (.cons (.refl _) (.cons (LeL.agg (by rw [encE_eq]; exact .cons (.refl _) (.cons (.refl _) (.cons (.nil 3) .nil)))) .nil))
  simp only [encE_eq] at R S
  simp only [encP]
  (refine Call1.enter Try.func61 rfl (by kernel_rfl) (by kernel_rfl) rfl (by first | rfl | (simp only [go_sem, Bool.and_self, Bool.and_true, Bool.true_and])) (by first | rfl | (simp only [go_sem, Bool.and_self, Bool.and_true, Bool.true_and])) ?_; simp only [Try.ntmps61, Try.results61, List.length_cons, List.length_nil, Nat.reduceAdd, Nat.reduceSub, List.replicate_succ, List.replicate_zero, List.cons_append, List.nil_append])
  repeat' (first | (with_reducible first | refine Stp.up ?_ | refine fun (K : AS → Prop) hK => ?_ | refine awp_drawE (by decide +kernel) (by kernel_rfl) ?_ | refine awp_draw (by kernel_rfl) (by decide) ?_ | refine awp_boxes (by kernel_rfl) (by kernel_rfl) (by kernel_rfl) ?_ | refine adrawE_k (by decide) ?_ | refine adrawE_eff (by decide) ?_ | refine abox_plain (by decide) ?_ | refine abox_al ?_ | refine abox_st ?_) | (with_reducible refine hK _ ?_; clear hK; clear K) | simp only [go_sem, Nat.reduceAdd, Nat.reduceSub, Nat.reduceMul, Nat.reduceLeDiff, Nat.reduceEqDiff, Nat.reduceLT, Int.reduceToNat, ↓reduceIte, reduceCtorEq, Int.reduceLE, Int.reduceLT, Int.reduceNeg, Int.reduceEq, Int.reduceBEq, Int.reduceBNe, Go.undef, noB_is] | (with_reducible refine And.intro (by omega) ?_) | (clear hK; clear K) | (with_reducible refine ACallV.one (by assumption) ?_) | (with_reducible refine ACallS.one (by assumption) ?_) | (refine AIf.part (fun hb => ?_) (fun hb => ?_) <;> simp only [hb, go_sem, Nat.reduceAdd, Nat.reduceSub, Nat.reduceMul, Nat.reduceLeDiff, Nat.reduceEqDiff, Nat.reduceLT, Int.reduceToNat, ↓reduceIte, reduceCtorEq, Int.reduceLE, Int.reduceLT, Int.reduceNeg, Int.reduceEq, Int.reduceBEq, Int.reduceBNe, Go.undef, noB_is]) | (refine AIf.part (fun hb => ?_) (fun hb => ?_)) | (with_reducible refine ABoth.mk ?_ ?_))
  all_goals simp_all [patRight, Bool.and_assoc]
end Go.Proofs.Yteihcfhdhkamfaa
