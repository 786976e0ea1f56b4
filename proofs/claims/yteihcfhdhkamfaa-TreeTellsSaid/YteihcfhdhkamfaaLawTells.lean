/- kinescopelaw11.TreeTells: the walk. -/
import Derived.Test.YteihcfhdhkamfaaRef11
import Derived.Test.YteihcfhdhkamfaaRef11b
import Derived.Test.YteihcfhdhkamfaaRef11c
import Derived.Test.YteihcfhdhkamfaaRef11d
import Derived.Test.YteihcfhdhkamfaaKept
import Derived.Test.YteihcfhdhkamfaaLib11
set_option linter.unusedSimpArgs false
set_option linter.unusedVariables false
namespace Go.Proofs.Yteihcfhdhkamfaa
open Go.RowKit

theorem parts_sub (x : Ex) : ∀ y, y ∈ exParts x → (exParts y).length ≤ (exParts x).length := by
  induction x using Ex.ind with
  | h k s l ih =>
    intro y hy
    rw [exParts, exsParts_eq] at hy
    rcases List.mem_cons.1 hy with rfl | hy
    · exact Nat.le_refl _
    · obtain ⟨z, hz, hy⟩ := List.mem_flatMap.1 hy
      have h1 := ih z hz y hy
      have h2 := flat_mem_le exParts l z hz
      rw [exParts_kids]; omega
theorem kids_le (x : Ex) : x.kids.length ≤ (exParts x).length := by
  obtain ⟨k, s, l⟩ := x
  rw [exParts_kids]
  have := flat_len l
  simp only [Ex.kids]; omega
theorem ex_lens {x : Ex} {n : Nat} (h : (exParts x).length ≤ n) : x.lens n := fun y hy => by
  have h1 := parts_sub x y hy
  have h2 := kids_le y
  omega
theorem q_lens {q : Qry} (h : szQ q ≤ 400) : q.lens 1000000 := by
  obtain ⟨h1, h2⟩ := szQ_spec h
  exact ⟨by omega, by omega, by omega, fun p hp => ex_lens (by have := h2 p hp; omega)⟩
theorem part_ok (x : Ex) : x.ok → ∀ y, y ∈ exParts x → okT y.label := by
  induction x using Ex.ind with
  | h k s l ih =>
    intro h y hy
    rw [Ex.ok] at h
    rw [exParts, exsParts_eq] at hy
    rcases List.mem_cons.1 hy with rfl | hy
    · exact h.1
    · obtain ⟨z, hz, hy⟩ := List.mem_flatMap.1 hy
      exact ih z hz (exsOk_iff.1 h.2 z hz) y hy

theorem treeOperand_c (o : Opd) (h : o.ok) : Call1 Try.prog 18 [.agg (encO o)] (.v (.bool (opdRight o))) :=
  .of_ret (by kernel_rfl) rfl (fun D nu w vargs hr => by
    obtain ⟨x, rfl, hx⟩ := ras_one hr
    obtain ⟨cx, rfl, kx⟩ := ra_agg hx
    obtain rfl := rls_vals (vs := o.cells) kx
    exact operand_any o w h)
theorem all2_seqb_refl (l : List ByteArray) : all2 seqb l l = true := by
  induction l with
  | nil => rfl
  | cons x xs ih => simp [all2, seqb, ih]
set_option maxRecDepth 100000 in
set_option maxHeartbeats 8000000 in
theorem lawTells_c (q r : Qry) (o : Opd) (hq : q.small) (hr : r.small) (oq : q.ok) (or' : r.ok) (oo : o.ok) : Call1 Try.prog 3 [.agg (encQ q), .agg (encQ r), .agg (encO o)] (.v (.bool true)) := by
  have S1 := size11_c q hq
  have S2 := size11_c r hr
  have W := awake11_c
  simp only [encQ] at S1 S2
  simp only [encQ, encO]
  (refine Call1.enter Try.func3 rfl (by kernel_rfl) (by kernel_rfl) rfl (by first | rfl | (simp only [go_sem, Bool.and_self, Bool.and_true, Bool.true_and])) (by first | rfl | (simp only [go_sem, Bool.and_self, Bool.and_true, Bool.true_and])) ?_; simp only [Try.ntmps3, Try.results3, List.length_cons, List.length_nil, Nat.reduceAdd, Nat.reduceSub, List.replicate_succ, List.replicate_zero, List.cons_append, List.nil_append])
  repeat (first | (with_reducible first | refine aops_k (fun K hK => ?_) | refine adraw_last (fun K hK => ?_) | refine adraw_k (fun K hK => ?_) | refine awp_seq (fun K hK => ?_) | refine aops_nil ?_ | refine awp_region ?_ | refine awp_skip ?_ | refine awp_block ?_ | refine awp_cond ?_ | refine awp_exit ?_ | refine awp_ret ?_ | refine aseq_normal ?_ | refine aseq_exit ?_ | refine aseq_ret ?_ | refine ablk_normal ?_ | refine ablk_ret ?_ | refine ablk_here ?_ | refine ablk_off (by decide) ?_ | refine awp_scope ?_ | refine ascp_normal ?_ | refine ascp_ret ?_ | refine ascp_exit ?_ | refine awp_label ?_ | refine awp_draw (by kernel_rfl) (by decide) ?_ | refine awp_boxes (by kernel_rfl) (by kernel_rfl) ?_ | refine abox_plain (by decide) (fun K hK => ?_) | refine abox_al ?_ | refine abox_st ?_ | refine abox_nil ?_) | (with_reducible refine hK _ ?_; clear hK; clear K) | simp only [go_sem, Nat.reduceAdd, Nat.reduceSub, Nat.reduceMul, Nat.reduceLeDiff, Nat.reduceEqDiff, Nat.reduceLT, Int.reduceToNat, ↓reduceIte, reduceCtorEq, Int.reduceLE, Int.reduceLT, Int.reduceNeg, Int.reduceEq, Int.reduceBEq, Int.reduceBNe] | (with_reducible refine And.intro (by omega) ?_) | (clear hK; clear K))
  refine ACallV.one S1 ?_
  repeat (first | (with_reducible first | refine aops_k (fun K hK => ?_) | refine adraw_last (fun K hK => ?_) | refine adraw_k (fun K hK => ?_) | refine awp_seq (fun K hK => ?_) | refine aops_nil ?_ | refine awp_region ?_ | refine awp_skip ?_ | refine awp_block ?_ | refine awp_cond ?_ | refine awp_exit ?_ | refine awp_ret ?_ | refine aseq_normal ?_ | refine aseq_exit ?_ | refine aseq_ret ?_ | refine ablk_normal ?_ | refine ablk_ret ?_ | refine ablk_here ?_ | refine ablk_off (by decide) ?_ | refine awp_scope ?_ | refine ascp_normal ?_ | refine ascp_ret ?_ | refine ascp_exit ?_ | refine awp_label ?_ | refine awp_draw (by kernel_rfl) (by decide) ?_ | refine awp_boxes (by kernel_rfl) (by kernel_rfl) ?_ | refine abox_plain (by decide) (fun K hK => ?_) | refine abox_al ?_ | refine abox_st ?_ | refine abox_nil ?_) | (with_reducible refine hK _ ?_; clear hK; clear K) | simp only [go_sem, Nat.reduceAdd, Nat.reduceSub, Nat.reduceMul, Nat.reduceLeDiff, Nat.reduceEqDiff, Nat.reduceLT, Int.reduceToNat, ↓reduceIte, reduceCtorEq, Int.reduceLE, Int.reduceLT, Int.reduceNeg, Int.reduceEq, Int.reduceBEq, Int.reduceBNe] | (with_reducible refine And.intro (by omega) ?_) | (clear hK; clear K))
  refine AIf.part (fun h1 => ?_) (fun h1 => ?_)
  · repeat' (first | (with_reducible first | refine aops_k (fun K hK => ?_) | refine adraw_last (fun K hK => ?_) | refine adraw_k (fun K hK => ?_) | refine awp_seq (fun K hK => ?_) | refine aops_nil ?_ | refine awp_region ?_ | refine awp_skip ?_ | refine awp_block ?_ | refine awp_cond ?_ | refine awp_exit ?_ | refine awp_ret ?_ | refine aseq_normal ?_ | refine aseq_exit ?_ | refine aseq_ret ?_ | refine ablk_normal ?_ | refine ablk_ret ?_ | refine ablk_here ?_ | refine ablk_off (by decide) ?_ | refine awp_scope ?_ | refine ascp_normal ?_ | refine ascp_ret ?_ | refine ascp_exit ?_ | refine awp_label ?_ | refine awp_draw (by kernel_rfl) (by decide) ?_ | refine awp_boxes (by kernel_rfl) (by kernel_rfl) ?_ | refine abox_plain (by decide) (fun K hK => ?_) | refine abox_al ?_ | refine abox_st ?_ | refine abox_nil ?_) | (with_reducible refine hK _ ?_; clear hK; clear K) | simp only [go_sem, Nat.reduceAdd, Nat.reduceSub, Nat.reduceMul, Nat.reduceLeDiff, Nat.reduceEqDiff, Nat.reduceLT, Int.reduceToNat, ↓reduceIte, reduceCtorEq, Int.reduceLE, Int.reduceLT, Int.reduceNeg, Int.reduceEq, Int.reduceBEq, Int.reduceBNe, h1, Go.undef] | (with_reducible refine And.intro (by omega) ?_) | (clear hK; clear K) | (with_reducible refine ACallV.one (by assumption) ?_) | (with_reducible refine ACallS.one (by assumption) ?_) | (refine AIf.part (fun hb => ?_) (fun hb => ?_) <;> simp only [hb, go_sem, Nat.reduceAdd, Nat.reduceSub, Nat.reduceMul, Nat.reduceLeDiff, Nat.reduceEqDiff, Nat.reduceLT, Int.reduceToNat, ↓reduceIte, reduceCtorEq, Int.reduceLE, Int.reduceLT, Int.reduceNeg, Int.reduceEq, Int.reduceBEq, Int.reduceBNe, h1, Go.undef]) | (refine AIf.part (fun hb => ?_) (fun hb => ?_)))
  · repeat (first | (with_reducible first | refine aops_k (fun K hK => ?_) | refine adraw_last (fun K hK => ?_) | refine adraw_k (fun K hK => ?_) | refine awp_seq (fun K hK => ?_) | refine aops_nil ?_ | refine awp_region ?_ | refine awp_skip ?_ | refine awp_block ?_ | refine awp_cond ?_ | refine awp_exit ?_ | refine awp_ret ?_ | refine aseq_normal ?_ | refine aseq_exit ?_ | refine aseq_ret ?_ | refine ablk_normal ?_ | refine ablk_ret ?_ | refine ablk_here ?_ | refine ablk_off (by decide) ?_ | refine awp_scope ?_ | refine ascp_normal ?_ | refine ascp_ret ?_ | refine ascp_exit ?_ | refine awp_label ?_ | refine awp_draw (by kernel_rfl) (by decide) ?_ | refine awp_boxes (by kernel_rfl) (by kernel_rfl) ?_ | refine abox_plain (by decide) (fun K hK => ?_) | refine abox_al ?_ | refine abox_st ?_ | refine abox_nil ?_) | (with_reducible refine hK _ ?_; clear hK; clear K) | simp only [go_sem, Nat.reduceAdd, Nat.reduceSub, Nat.reduceMul, Nat.reduceLeDiff, Nat.reduceEqDiff, Nat.reduceLT, Int.reduceToNat, ↓reduceIte, reduceCtorEq, Int.reduceLE, Int.reduceLT, Int.reduceNeg, Int.reduceEq, Int.reduceBEq, Int.reduceBNe, h1] | (with_reducible refine And.intro (by omega) ?_) | (clear hK; clear K))
    refine ACallV.one S2 ?_
    repeat (first | (with_reducible first | refine aops_k (fun K hK => ?_) | refine adraw_last (fun K hK => ?_) | refine adraw_k (fun K hK => ?_) | refine awp_seq (fun K hK => ?_) | refine aops_nil ?_ | refine awp_region ?_ | refine awp_skip ?_ | refine awp_block ?_ | refine awp_cond ?_ | refine awp_exit ?_ | refine awp_ret ?_ | refine aseq_normal ?_ | refine aseq_exit ?_ | refine aseq_ret ?_ | refine ablk_normal ?_ | refine ablk_ret ?_ | refine ablk_here ?_ | refine ablk_off (by decide) ?_ | refine awp_scope ?_ | refine ascp_normal ?_ | refine ascp_ret ?_ | refine ascp_exit ?_ | refine awp_label ?_ | refine awp_draw (by kernel_rfl) (by decide) ?_ | refine awp_boxes (by kernel_rfl) (by kernel_rfl) ?_ | refine abox_plain (by decide) (fun K hK => ?_) | refine abox_al ?_ | refine abox_st ?_ | refine abox_nil ?_) | (with_reducible refine hK _ ?_; clear hK; clear K) | simp only [go_sem, Nat.reduceAdd, Nat.reduceSub, Nat.reduceMul, Nat.reduceLeDiff, Nat.reduceEqDiff, Nat.reduceLT, Int.reduceToNat, ↓reduceIte, reduceCtorEq, Int.reduceLE, Int.reduceLT, Int.reduceNeg, Int.reduceEq, Int.reduceBEq, Int.reduceBNe, h1] | (with_reducible refine And.intro (by omega) ?_) | (clear hK; clear K))
    refine AIf.part (fun h2 => ?_) (fun h2 => ?_)
    · repeat' (first | (with_reducible first | refine aops_k (fun K hK => ?_) | refine adraw_last (fun K hK => ?_) | refine adraw_k (fun K hK => ?_) | refine awp_seq (fun K hK => ?_) | refine aops_nil ?_ | refine awp_region ?_ | refine awp_skip ?_ | refine awp_block ?_ | refine awp_cond ?_ | refine awp_exit ?_ | refine awp_ret ?_ | refine aseq_normal ?_ | refine aseq_exit ?_ | refine aseq_ret ?_ | refine ablk_normal ?_ | refine ablk_ret ?_ | refine ablk_here ?_ | refine ablk_off (by decide) ?_ | refine awp_scope ?_ | refine ascp_normal ?_ | refine ascp_ret ?_ | refine ascp_exit ?_ | refine awp_label ?_ | refine awp_draw (by kernel_rfl) (by decide) ?_ | refine awp_boxes (by kernel_rfl) (by kernel_rfl) ?_ | refine abox_plain (by decide) (fun K hK => ?_) | refine abox_al ?_ | refine abox_st ?_ | refine abox_nil ?_) | (with_reducible refine hK _ ?_; clear hK; clear K) | simp only [go_sem, Nat.reduceAdd, Nat.reduceSub, Nat.reduceMul, Nat.reduceLeDiff, Nat.reduceEqDiff, Nat.reduceLT, Int.reduceToNat, ↓reduceIte, reduceCtorEq, Int.reduceLE, Int.reduceLT, Int.reduceNeg, Int.reduceEq, Int.reduceBEq, Int.reduceBNe, h2, Go.undef] | (with_reducible refine And.intro (by omega) ?_) | (clear hK; clear K) | (with_reducible refine ACallV.one (by assumption) ?_) | (with_reducible refine ACallS.one (by assumption) ?_) | (refine AIf.part (fun hb => ?_) (fun hb => ?_) <;> simp only [hb, go_sem, Nat.reduceAdd, Nat.reduceSub, Nat.reduceMul, Nat.reduceLeDiff, Nat.reduceEqDiff, Nat.reduceLT, Int.reduceToNat, ↓reduceIte, reduceCtorEq, Int.reduceLE, Int.reduceLT, Int.reduceNeg, Int.reduceEq, Int.reduceBEq, Int.reduceBNe, h2, Go.undef]) | (refine AIf.part (fun hb => ?_) (fun hb => ?_)))
    · have b1 : szQ q ≤ 400 := by (try simp only [bne_iff_ne, ne_eq, bne_eq_false_iff_eq, beq_iff_eq, beq_eq_false_iff_ne, decide_eq_true_eq, decide_eq_false_iff_not, Bool.not_eq_true', Bool.not_eq_false', Bool.not_eq_eq_eq_not, Bool.not_true, Bool.not_false, Int.natCast_inj, Int.ofNat_lt, Int.ofNat_le] at h1); omega
      have b2 : szQ r ≤ 400 := by (try simp only [bne_iff_ne, ne_eq, bne_eq_false_iff_eq, beq_iff_eq, beq_eq_false_iff_ne, decide_eq_true_eq, decide_eq_false_iff_not, Bool.not_eq_true', Bool.not_eq_false', Bool.not_eq_eq_eq_not, Bool.not_true, Bool.not_false, Int.natCast_inj, Int.ofNat_lt, Int.ofNat_le] at h2); omega
      have z1 := szQ_spec b1
      have z2 := szQ_spec b2
      have n1 := q_lens b1
      have n2 := q_lens b2
      have L1 := lentQuery_c q n1
      have L2 := lentQuery_c r n2
      have hw : wfL 0 [.agg (lentQ q)] = true := by simp only [wfL, AV.wf, wf_lentQ, Bool.and_self]
      have le1 : LeL [.agg (lentQ q)] [.agg (encQ q)] := .cons (le_lentQ q).agg .nil
      have C1 := (treeRight_c q oq).le hw le1
      have C2 := right11_c q oq n1 (fun p hp => ⟨by have := z1.2 p hp; omega, fun z hz => ⟨n1.2.2.2 p hp z hz, by have := part_ok p.expr (oq.1 p hp).2.2.2.2 z hz; unfold okT at this; omega⟩⟩)
      have C3 := (treeSame_c q r).le (args' := [.agg (lentQ q), .agg (lentQ r)]) (by simp only [wfL, AV.wf, wf_lentQ, Bool.and_self]) (.cons (le_lentQ q).agg (.cons (le_lentQ r).agg .nil))
      have C4 := same11_c q r n1
      have C5 := treeOperand_c o oo
      have C6 := operand11_c o oo
      have C7 := (treeSize_c q oq (by omega) (fun p hp => by have := z1.2 p hp; omega)).le hw le1
      have C8 := size11r_c q n1 (by omega)
      have C9 := (vertices_c q (by omega)).le hw le1
      have C10 := vertices11_c q (by omega)
      have C11 := (edges_c q (by omega)).le hw le1
      have C12 := edges11_c q (by omega)
      have C13 := sameTexts_c (onceL (vnames q.pats)) (onceL (vnames q.pats))
      have C14 := sameTexts_c (onceL (enames q.pats)) (onceL (enames q.pats))
      have C15 := keptQuery_c q n1
      have C16 := keptQuery_c r n2
      rw [all2_seqb_refl] at C13 C14
      simp only [encQ, lentQ, encO, strsA] at L1 L2 C1 C2 C3 C4 C5 C6 C7 C8 C9 C10 C11 C12 C13 C14 C15 C16
      repeat' (first | (with_reducible first | refine aops_k (fun K hK => ?_) | refine adraw_last (fun K hK => ?_) | refine adraw_k (fun K hK => ?_) | refine awp_seq (fun K hK => ?_) | refine aops_nil ?_ | refine awp_region ?_ | refine awp_skip ?_ | refine awp_block ?_ | refine awp_cond ?_ | refine awp_exit ?_ | refine awp_ret ?_ | refine aseq_normal ?_ | refine aseq_exit ?_ | refine aseq_ret ?_ | refine ablk_normal ?_ | refine ablk_ret ?_ | refine ablk_here ?_ | refine ablk_off (by decide) ?_ | refine awp_scope ?_ | refine ascp_normal ?_ | refine ascp_ret ?_ | refine ascp_exit ?_ | refine awp_label ?_ | refine awp_draw (by kernel_rfl) (by decide) ?_ | refine awp_boxes (by kernel_rfl) (by kernel_rfl) ?_ | refine abox_plain (by decide) (fun K hK => ?_) | refine abox_al ?_ | refine abox_st ?_ | refine abox_nil ?_) | (with_reducible refine hK _ ?_; clear hK; clear K) | simp only [go_sem, Nat.reduceAdd, Nat.reduceSub, Nat.reduceMul, Nat.reduceLeDiff, Nat.reduceEqDiff, Nat.reduceLT, Int.reduceToNat, ↓reduceIte, reduceCtorEq, Int.reduceLE, Int.reduceLT, Int.reduceNeg, Int.reduceEq, Int.reduceBEq, Int.reduceBNe, h1, h2, Go.undef] | (with_reducible refine And.intro (by omega) ?_) | (clear hK; clear K) | (with_reducible refine ACallV.one (by assumption) ?_) | (with_reducible refine ACallS.one (by assumption) ?_) | (refine AIf.part (fun hb => ?_) (fun hb => ?_) <;> simp only [hb, go_sem, Nat.reduceAdd, Nat.reduceSub, Nat.reduceMul, Nat.reduceLeDiff, Nat.reduceEqDiff, Nat.reduceLT, Int.reduceToNat, ↓reduceIte, reduceCtorEq, Int.reduceLE, Int.reduceLT, Int.reduceNeg, Int.reduceEq, Int.reduceBEq, Int.reduceBNe, h1, h2, Go.undef]) | (refine AIf.part (fun hb => ?_) (fun hb => ?_)))
end Go.Proofs.Yteihcfhdhkamfaa
