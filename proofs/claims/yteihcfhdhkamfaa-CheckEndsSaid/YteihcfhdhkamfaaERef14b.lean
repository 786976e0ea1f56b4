/- The document's answer for layer 14 (ref14): Query: the walk. -/
import Derived.Test.YteihcfhdhkamfaaERef14
set_option linter.unusedSimpArgs false
set_option linter.unusedVariables false
namespace Go.Proofs.Yteihcfhdhkamfaa
open Go.RowKit

set_option maxRecDepth 100000 in
set_option maxHeartbeats 8000000 in
theorem query14r_c (q : Qry) (hok : q.ok) (hl : q.lens 1000000) (h4 : q.pats.length ≤ 400000) (hp : ∀ p, p ∈ q.pats → (exParts p.expr).length ≤ 1000000 ∧ ∀ z, z ∈ exParts p.expr → z.kids.length ≤ 1000000 ∧ z.label.size ≤ 1000000000000000) :
    Call1 Try.prog 33 [.agg (encQ q)] (.v (.int .i64 (chkQ q))) := by
  have C1 := right11_c q hok hl hp
  have C2 := vertices11_c q h4
  have C3 := edges11_c q h4
  have C4 := operands14_c q hl.2.1 hl.2.2.1
  have hVl : (onceL (vnames q.pats)).length ≤ 1000000 := by
    have := onceL_len (vnames q.pats); have := vnames_len q.pats; omega
  have hEl : (onceL (enames q.pats)).length ≤ 1000000 := by
    have := onceL_len (enames q.pats); have := enames_len q.pats; omega
  have hOl : (qOps q).length ≤ 3000000 := by
    have h1 := twoL_len q.conds
    have h2 := hl.2.1
    have h3 := hl.2.2.1
    have : qOps q = twoL q.conds ++ q.ret := rfl
    rw [this, List.length_append]; omega
  have hR : chkQ q = if qryRight q then
      match nmL (onceL (vnames q.pats)) q.pats with
      | none => 9
      | some ns => if (qOps q).all (opKnown (onceL (vnames q.pats)) ns) then (if q.conds.any typeBad then 10 else 0) else 8
    else 2 := rfl
  have hV := fun s => has14_c (onceL (vnames q.pats)) s hVl
  have hE := fun s => has14_c (onceL (enames q.pats)) s hEl
  have hkd := fun h : qryRight q = true => qOps_kind h
  generalize hvs : onceL (vnames q.pats) = vs at *
  generalize hes : onceL (enames q.pats) = es at *
  generalize hqo : qOps q = os at *
  generalize chkQ q = res at *
  obtain ⟨ps, cs, rs, ra, sl⟩ := q
  simp only at h4 hes hR hl
  have hcl : cs.length ≤ 1000000 := hl.2.1
  simp only [encQ, strsA] at C1 C2 C3 C4 hV hE ⊢
  (refine Call1.enter Try.func33 rfl (by kernel_rfl) (by kernel_rfl) rfl (by first | rfl | (simp only [go_sem, Bool.and_self, Bool.and_true, Bool.true_and])) (by first | rfl | (simp only [go_sem, Bool.and_self, Bool.and_true, Bool.true_and])) ?_; simp only [Try.ntmps33, Try.results33, List.length_cons, List.length_nil, Nat.reduceAdd, Nat.reduceSub, List.replicate_succ, List.replicate_zero, List.cons_append, List.nil_append])
  repeat' (first | (with_reducible first | refine Stp.up ?_ | refine fun (K : AS → Prop) hK => ?_ | refine awp_drawE (by decide +kernel) (by kernel_rfl) ?_ | refine awp_draw (by kernel_rfl) (by decide) ?_ | refine awp_boxes (by kernel_rfl) (by kernel_rfl) (by kernel_rfl) ?_ | refine adrawE_k (by decide) ?_ | refine adrawE_eff (by decide) ?_ | refine abox_plain (by decide) ?_ | refine abox_al ?_ | refine abox_st ?_) | (with_reducible refine hK _ ?_; clear hK; clear K) | simp only [go_sem, Nat.reduceAdd, Nat.reduceSub, Nat.reduceMul, Nat.reduceLeDiff, Nat.reduceEqDiff, Nat.reduceLT, Int.reduceToNat, ↓reduceIte, reduceCtorEq, Int.reduceLE, Int.reduceLT, Int.reduceNeg, Int.reduceEq, Int.reduceBEq, Int.reduceBNe] | (with_reducible refine And.intro (by omega) ?_) | (clear hK; clear K) | (with_reducible refine ACallV.one (by assumption) ?_) | (with_reducible refine ACallS.one (by assumption) ?_) | (refine AIf.part (fun hb => ?_) (fun hb => ?_) <;> simp only [hb, go_sem, Nat.reduceAdd, Nat.reduceSub, Nat.reduceMul, Nat.reduceLeDiff, Nat.reduceEqDiff, Nat.reduceLT, Int.reduceToNat, ↓reduceIte, reduceCtorEq, Int.reduceLE, Int.reduceLT, Int.reduceNeg, Int.reduceEq, Int.reduceBEq, Int.reduceBNe]) | (refine AIf.part (fun hb => ?_) (fun hb => ?_)) | (with_reducible refine ABoth.mk ?_ ?_))
  · have hkd := hkd hb
    have hR : res = match nmL vs ps with | none => 9 | some ns => if os.all (opKnown vs ns) then (if cs.any typeBad then 10 else 0) else 8 := by rw [hR, hb]; rfl
    clear hb
    refine awp_loopV (ι := Nat × List ByteArray) 5 9 1 rfl (by omega) 7 (fun i => [(5, .vec 1 i.2.length), (6, .v (.int .i64 i.1))]) (fun i => [some ⟨26, 5, false, [encQ ⟨ps, cs, rs, ra, sl⟩]⟩, some ⟨9, 1, true, i.2.map encS⟩]) (fun i => ps.length - i.1) (fun i => i.1 ≤ ps.length ∧ nmL vs (ps.take i.1) = some i.2) (0, []) ⟨by simp, rfl⟩ ?_ ?_
    · (refine wk_mk ?_ ?_ ?_ <;> simp only [frm, List.foldl_cons, List.foldl_nil, List.replicate_succ, List.replicate_zero, WkT, WkO, AV.v.injEq, Value.int.injEq, Value.bool.injEq, Value.string.injEq, AV.vec.injEq, AV.ptr.injEq, true_or, or_true, false_or, or_false, AObj.mk.injEq, forall_eq_apply_imp_iff, forall_eq, forall_eq', go_sem, Nat.reduceAdd, Nat.reduceSub, Nat.reduceMul, Nat.reduceLeDiff, Nat.reduceEqDiff, Nat.reduceLT, Int.reduceToNat, ↓reduceIte, reduceCtorEq, Int.reduceLE, Int.reduceLT, Int.reduceNeg, Int.reduceEq, Int.reduceBEq, Int.reduceBNe])
      all_goals rfl
    · rintro ⟨i, ns⟩ ⟨hi, hP⟩ K hK
      simp only at hi hP
      repeat (first | (with_reducible first | refine Stp.up ?_ | refine fun (K : AS → Prop) hK => ?_ | refine awp_drawE (by decide +kernel) (by kernel_rfl) ?_ | refine awp_draw (by kernel_rfl) (by decide) ?_ | refine awp_boxes (by kernel_rfl) (by kernel_rfl) (by kernel_rfl) ?_ | refine adrawE_k (by decide) ?_ | refine adrawE_eff (by decide) ?_ | refine abox_plain (by decide) ?_ | refine abox_al ?_ | refine abox_st ?_) | (with_reducible refine hK _ ?_; clear hK; clear K) | simp only [go_sem, Nat.reduceAdd, Nat.reduceSub, Nat.reduceMul, Nat.reduceLeDiff, Nat.reduceEqDiff, Nat.reduceLT, Int.reduceToNat, ↓reduceIte, reduceCtorEq, Int.reduceLE, Int.reduceLT, Int.reduceNeg, Int.reduceEq, Int.reduceBEq, Int.reduceBNe] | (with_reducible refine And.intro (by omega) ?_) | (clear hK; clear K))
      refine AIf.part (fun h => ?_) (fun h => ?_)
      · have hlt : i < ps.length := by (try simp only [bne_iff_ne, ne_eq, bne_eq_false_iff_eq, beq_iff_eq, beq_eq_false_iff_ne, decide_eq_true_eq, decide_eq_false_iff_not, Bool.not_eq_true', Bool.not_eq_false', Bool.not_eq_eq_eq_not, Bool.not_true, Bool.not_false, Int.natCast_inj, Int.ofNat_lt, Int.ofNat_le] at h); omega
        have eW := wrap_succ (k := i) (by omega)
        have eG := getD_map encP ps i [] hlt
        have eN := nmL_succ vs hlt
        have hnl : ns.length ≤ 1000000 := by
          have := nmL_len hP; rw [List.length_take] at this; omega
        rw [hP] at eN
        simp only [nmStep] at eN
        simp only [encP] at eG
        have hN := has14_c ns ps[i].name hnl
        have hVs := hV ps[i].name
        simp only [strsA] at hN
        repeat (first | (with_reducible first | refine Stp.up ?_ | refine fun (K : AS → Prop) hK => ?_ | refine awp_drawE (by decide +kernel) (by kernel_rfl) ?_ | refine awp_draw (by kernel_rfl) (by decide) ?_ | refine awp_boxes (by kernel_rfl) (by kernel_rfl) (by kernel_rfl) ?_ | refine adrawE_k (by decide) ?_ | refine adrawE_eff (by decide) ?_ | refine abox_plain (by decide) ?_ | refine abox_al ?_ | refine abox_st ?_) | (with_reducible refine hK _ ?_; clear hK; clear K) | simp only [go_sem, Nat.reduceAdd, Nat.reduceSub, Nat.reduceMul, Nat.reduceLeDiff, Nat.reduceEqDiff, Nat.reduceLT, Int.reduceToNat, ↓reduceIte, reduceCtorEq, Int.reduceLE, Int.reduceLT, Int.reduceNeg, Int.reduceEq, Int.reduceBEq, Int.reduceBNe, eG, eW, noB_is] | (with_reducible refine And.intro (by omega) ?_) | (clear hK; clear K))
        refine AIf.part (fun hb => ?_) (fun hb => ?_)
        · rw [if_pos hb] at eN
          repeat (first | (with_reducible first | refine Stp.up ?_ | refine fun (K : AS → Prop) hK => ?_ | refine awp_drawE (by decide +kernel) (by kernel_rfl) ?_ | refine awp_draw (by kernel_rfl) (by decide) ?_ | refine awp_boxes (by kernel_rfl) (by kernel_rfl) (by kernel_rfl) ?_ | refine adrawE_k (by decide) ?_ | refine adrawE_eff (by decide) ?_ | refine abox_plain (by decide) ?_ | refine abox_al ?_ | refine abox_st ?_) | (with_reducible refine hK _ ?_; clear hK; clear K) | simp only [go_sem, Nat.reduceAdd, Nat.reduceSub, Nat.reduceMul, Nat.reduceLeDiff, Nat.reduceEqDiff, Nat.reduceLT, Int.reduceToNat, ↓reduceIte, reduceCtorEq, Int.reduceLE, Int.reduceLT, Int.reduceNeg, Int.reduceEq, Int.reduceBEq, Int.reduceBNe, hb, eG, eW] | (with_reducible refine And.intro (by omega) ?_) | (clear hK; clear K))
          exact LNext.mk (i + 1, ns) ⟨by simp only; omega, eN⟩ (by simp only; omega) (by (refine wk_mk ?_ ?_ ?_ <;> simp only [frm, List.foldl_cons, List.foldl_nil, List.replicate_succ, List.replicate_zero, WkT, WkO, AV.v.injEq, Value.int.injEq, Value.bool.injEq, Value.string.injEq, AV.vec.injEq, AV.ptr.injEq, true_or, or_true, false_or, or_false, AObj.mk.injEq, forall_eq_apply_imp_iff, forall_eq, forall_eq', go_sem, Nat.reduceAdd, Nat.reduceSub, Nat.reduceMul, Nat.reduceLeDiff, Nat.reduceEqDiff, Nat.reduceLT, Int.reduceToNat, ↓reduceIte, reduceCtorEq, Int.reduceLE, Int.reduceLT, Int.reduceNeg, Int.reduceEq, Int.reduceBEq, Int.reduceBNe]))
        · rw [if_neg (by rw [hb]; simp)] at eN
          repeat (first | (with_reducible first | refine Stp.up ?_ | refine fun (K : AS → Prop) hK => ?_ | refine awp_drawE (by decide +kernel) (by kernel_rfl) ?_ | refine awp_draw (by kernel_rfl) (by decide) ?_ | refine awp_boxes (by kernel_rfl) (by kernel_rfl) (by kernel_rfl) ?_ | refine adrawE_k (by decide) ?_ | refine adrawE_eff (by decide) ?_ | refine abox_plain (by decide) ?_ | refine abox_al ?_ | refine abox_st ?_) | (with_reducible refine hK _ ?_; clear hK; clear K) | simp only [go_sem, Nat.reduceAdd, Nat.reduceSub, Nat.reduceMul, Nat.reduceLeDiff, Nat.reduceEqDiff, Nat.reduceLT, Int.reduceToNat, ↓reduceIte, reduceCtorEq, Int.reduceLE, Int.reduceLT, Int.reduceNeg, Int.reduceEq, Int.reduceBEq, Int.reduceBNe, hb, eG, eW] | (with_reducible refine And.intro (by omega) ?_) | (clear hK; clear K))
          refine ACallV.frz hN 5 rfl ?_ rfl ?_
          · repeat (first | (with_reducible first | refine Stp.up ?_ | refine fun (K : AS → Prop) hK => ?_ | refine awp_drawE (by decide +kernel) (by kernel_rfl) ?_ | refine awp_draw (by kernel_rfl) (by decide) ?_ | refine awp_boxes (by kernel_rfl) (by kernel_rfl) (by kernel_rfl) ?_ | refine adrawE_k (by decide) ?_ | refine adrawE_eff (by decide) ?_ | refine abox_plain (by decide) ?_ | refine abox_al ?_ | refine abox_st ?_) | (with_reducible refine hK _ ?_; clear hK; clear K) | simp only [go_sem, Nat.reduceAdd, Nat.reduceSub, Nat.reduceMul, Nat.reduceLeDiff, Nat.reduceEqDiff, Nat.reduceLT, Int.reduceToNat, ↓reduceIte, reduceCtorEq, Int.reduceLE, Int.reduceLT, Int.reduceNeg, Int.reduceEq, Int.reduceBEq, Int.reduceBNe] | (with_reducible refine And.intro (by omega) ?_) | (clear hK; clear K))
          repeat' (first | (with_reducible first | refine Stp.up ?_ | refine fun (K : AS → Prop) hK => ?_ | refine awp_drawE (by decide +kernel) (by kernel_rfl) ?_ | refine awp_draw (by kernel_rfl) (by decide) ?_ | refine awp_boxes (by kernel_rfl) (by kernel_rfl) (by kernel_rfl) ?_ | refine adrawE_k (by decide) ?_ | refine adrawE_eff (by decide) ?_ | refine abox_plain (by decide) ?_ | refine abox_al ?_ | refine abox_st ?_) | (with_reducible refine hK _ ?_; clear hK; clear K) | simp only [go_sem, Nat.reduceAdd, Nat.reduceSub, Nat.reduceMul, Nat.reduceLeDiff, Nat.reduceEqDiff, Nat.reduceLT, Int.reduceToNat, ↓reduceIte, reduceCtorEq, Int.reduceLE, Int.reduceLT, Int.reduceNeg, Int.reduceEq, Int.reduceBEq, Int.reduceBNe, eG, eW] | (with_reducible refine And.intro (by omega) ?_) | (clear hK; clear K) | (with_reducible refine ACallV.one (by assumption) ?_) | (with_reducible refine ACallS.one (by assumption) ?_) | (refine AIf.part (fun hb => ?_) (fun hb => ?_) <;> simp only [hb, go_sem, Nat.reduceAdd, Nat.reduceSub, Nat.reduceMul, Nat.reduceLeDiff, Nat.reduceEqDiff, Nat.reduceLT, Int.reduceToNat, ↓reduceIte, reduceCtorEq, Int.reduceLE, Int.reduceLT, Int.reduceNeg, Int.reduceEq, Int.reduceBEq, Int.reduceBNe, eG, eW]) | (refine AIf.part (fun hb => ?_) (fun hb => ?_)) | (with_reducible refine ABoth.mk ?_ ?_))
          · refine congrArg (Value.int .i64) ?_
            rw [if_pos (by simp [hb])] at eN
            rw [hR, nmL_stop eN]
          · refine congrArg (Value.int .i64) ?_
            rw [if_pos (by simp [hb])] at eN
            rw [hR, nmL_stop eN]
          · rename_i hb'
            rw [if_neg (by simp [hb, hb'])] at eN
            refine LNext.mk (i + 1, ns ++ [ps[i].name]) ⟨by simp only; omega, eN⟩ (by simp only; omega) ?_
            simp only [List.length_append, List.length_cons, List.length_nil, List.map_append, List.map_cons, List.map_nil]
            (refine wk_mk ?_ ?_ ?_ <;> simp only [frm, List.foldl_cons, List.foldl_nil, List.replicate_succ, List.replicate_zero, WkT, WkO, AV.v.injEq, Value.int.injEq, Value.bool.injEq, Value.string.injEq, AV.vec.injEq, AV.ptr.injEq, true_or, or_true, false_or, or_false, AObj.mk.injEq, forall_eq_apply_imp_iff, forall_eq, forall_eq', go_sem, Nat.reduceAdd, Nat.reduceSub, Nat.reduceMul, Nat.reduceLeDiff, Nat.reduceEqDiff, Nat.reduceLT, Int.reduceToNat, ↓reduceIte, reduceCtorEq, Int.reduceLE, Int.reduceLT, Int.reduceNeg, Int.reduceEq, Int.reduceBEq, Int.reduceBNe])
            all_goals exact ?_
      · have e2 : ps.take i = ps := by rw [show i = ps.length by (try simp only [bne_iff_ne, ne_eq, bne_eq_false_iff_eq, beq_iff_eq, beq_eq_false_iff_ne, decide_eq_true_eq, decide_eq_false_iff_not, Bool.not_eq_true', Bool.not_eq_false', Bool.not_eq_eq_eq_not, Bool.not_true, Bool.not_false, Int.natCast_inj, Int.ofNat_lt, Int.ofNat_le] at h); omega, List.take_length]
        rw [e2] at hP
        rw [hP] at hR
        simp only at hR
        have hes' : es = ns := by rw [← hes]; exact nmL_once hP
        rw [← hes'] at hR
        repeat (first | (with_reducible first | refine Stp.up ?_ | refine fun (K : AS → Prop) hK => ?_ | refine awp_drawE (by decide +kernel) (by kernel_rfl) ?_ | refine awp_draw (by kernel_rfl) (by decide) ?_ | refine awp_boxes (by kernel_rfl) (by kernel_rfl) (by kernel_rfl) ?_ | refine adrawE_k (by decide) ?_ | refine adrawE_eff (by decide) ?_ | refine abox_plain (by decide) ?_ | refine abox_al ?_ | refine abox_st ?_) | (with_reducible refine hK _ ?_; clear hK; clear K) | simp only [go_sem, Nat.reduceAdd, Nat.reduceSub, Nat.reduceMul, Nat.reduceLeDiff, Nat.reduceEqDiff, Nat.reduceLT, Int.reduceToNat, ↓reduceIte, reduceCtorEq, Int.reduceLE, Int.reduceLT, Int.reduceNeg, Int.reduceEq, Int.reduceBEq, Int.reduceBNe] | (with_reducible refine And.intro (by omega) ?_) | (clear hK; clear K))
        refine ACallV.one C4 ?_
        repeat (first | (with_reducible first | refine Stp.up ?_ | refine fun (K : AS → Prop) hK => ?_ | refine awp_drawE (by decide +kernel) (by kernel_rfl) ?_ | refine awp_draw (by kernel_rfl) (by decide) ?_ | refine awp_boxes (by kernel_rfl) (by kernel_rfl) (by kernel_rfl) ?_ | refine adrawE_k (by decide) ?_ | refine adrawE_eff (by decide) ?_ | refine abox_plain (by decide) ?_ | refine abox_al ?_ | refine abox_st ?_) | (with_reducible refine hK _ ?_; clear hK; clear K) | simp only [go_sem, Nat.reduceAdd, Nat.reduceSub, Nat.reduceMul, Nat.reduceLeDiff, Nat.reduceEqDiff, Nat.reduceLT, Int.reduceToNat, ↓reduceIte, reduceCtorEq, Int.reduceLE, Int.reduceLT, Int.reduceNeg, Int.reduceEq, Int.reduceBEq, Int.reduceBNe] | (with_reducible refine And.intro (by omega) ?_) | (clear hK; clear K))
        refine awp_loopK (ι := Nat) 10 (fun i => [(9, .v (.int .i64 i))]) (fun i => os.length - i) (fun i => i ≤ os.length ∧ (os.take i).all (opKnown vs es) = true) 0 ⟨by omega, rfl⟩ ?_ ?_
        · (refine wk_mk ?_ ?_ ?_ <;> simp only [frm, List.foldl_cons, List.foldl_nil, List.replicate_succ, List.replicate_zero, WkT, WkO, AV.v.injEq, Value.int.injEq, Value.bool.injEq, Value.string.injEq, AV.vec.injEq, AV.ptr.injEq, true_or, or_true, false_or, or_false, AObj.mk.injEq, forall_eq_apply_imp_iff, forall_eq, forall_eq', go_sem, Nat.reduceAdd, Nat.reduceSub, Nat.reduceMul, Nat.reduceLeDiff, Nat.reduceEqDiff, Nat.reduceLT, Int.reduceToNat, ↓reduceIte, reduceCtorEq, Int.reduceLE, Int.reduceLT, Int.reduceNeg, Int.reduceEq, Int.reduceBEq, Int.reduceBNe])
          rfl
        · rintro i ⟨hi, hP⟩ K hK
          repeat (first | (with_reducible first | refine Stp.up ?_ | refine fun (K : AS → Prop) hK => ?_ | refine awp_drawE (by decide +kernel) (by kernel_rfl) ?_ | refine awp_draw (by kernel_rfl) (by decide) ?_ | refine awp_boxes (by kernel_rfl) (by kernel_rfl) (by kernel_rfl) ?_ | refine adrawE_k (by decide) ?_ | refine adrawE_eff (by decide) ?_ | refine abox_plain (by decide) ?_ | refine abox_al ?_ | refine abox_st ?_) | (with_reducible refine hK _ ?_; clear hK; clear K) | simp only [go_sem, Nat.reduceAdd, Nat.reduceSub, Nat.reduceMul, Nat.reduceLeDiff, Nat.reduceEqDiff, Nat.reduceLT, Int.reduceToNat, ↓reduceIte, reduceCtorEq, Int.reduceLE, Int.reduceLT, Int.reduceNeg, Int.reduceEq, Int.reduceBEq, Int.reduceBNe] | (with_reducible refine And.intro (by omega) ?_) | (clear hK; clear K))
          refine AIf.part (fun h => ?_) (fun h => ?_)
          · have hlt : i < os.length := by (try simp only [bne_iff_ne, ne_eq, bne_eq_false_iff_eq, beq_iff_eq, beq_eq_false_iff_ne, decide_eq_true_eq, decide_eq_false_iff_not, Bool.not_eq_true', Bool.not_eq_false', Bool.not_eq_eq_eq_not, Bool.not_true, Bool.not_false, Int.natCast_inj, Int.ofNat_lt, Int.ofNat_le] at h); omega
            have eW := wrap_succ (k := i) (by omega)
            have eG := getD_map encO os i [] hlt
            have hV := hV os[i].name
            have hE := hE os[i].name
            simp only [encO] at eG
            have hS : (os.take (i + 1)).all (opKnown vs es) = opKnown vs es os[i] := by
              rw [List.take_succ_eq_append_getElem hlt, List.all_append, hP]; simp
            have hend : opKnown vs es os[i] = false → Value.int .i64 8 = Value.int .i64 res := fun hx => by
              have : os.all (opKnown vs es) = false := by
                rw [← Bool.not_eq_true, List.all_eq_true]
                intro hh
                rw [hh _ (List.getElem_mem hlt)] at hx; cases hx
              rw [hR, this]; rfl
            repeat' (first | (with_reducible first | refine Stp.up ?_ | refine fun (K : AS → Prop) hK => ?_ | refine awp_drawE (by decide +kernel) (by kernel_rfl) ?_ | refine awp_draw (by kernel_rfl) (by decide) ?_ | refine awp_boxes (by kernel_rfl) (by kernel_rfl) (by kernel_rfl) ?_ | refine adrawE_k (by decide) ?_ | refine adrawE_eff (by decide) ?_ | refine abox_plain (by decide) ?_ | refine abox_al ?_ | refine abox_st ?_) | (with_reducible refine hK _ ?_; clear hK; clear K) | simp only [go_sem, Nat.reduceAdd, Nat.reduceSub, Nat.reduceMul, Nat.reduceLeDiff, Nat.reduceEqDiff, Nat.reduceLT, Int.reduceToNat, ↓reduceIte, reduceCtorEq, Int.reduceLE, Int.reduceLT, Int.reduceNeg, Int.reduceEq, Int.reduceBEq, Int.reduceBNe, eG, eW, Go.undef] | (with_reducible refine And.intro (by omega) ?_) | (clear hK; clear K) | (with_reducible refine ACallV.one (by assumption) ?_) | (with_reducible refine ACallS.one (by assumption) ?_) | (refine AIf.part (fun hb => ?_) (fun hb => ?_) <;> simp only [hb, go_sem, Nat.reduceAdd, Nat.reduceSub, Nat.reduceMul, Nat.reduceLeDiff, Nat.reduceEqDiff, Nat.reduceLT, Int.reduceToNat, ↓reduceIte, reduceCtorEq, Int.reduceLE, Int.reduceLT, Int.reduceNeg, Int.reduceEq, Int.reduceBEq, Int.reduceBNe, eG, eW, Go.undef]) | (refine AIf.part (fun hb => ?_) (fun hb => ?_)) | (with_reducible refine ABoth.mk ?_ ?_))
            all_goals clear hV hE C1 C2 C3 C4 hR hok hp hkd hl eG hes hqo hes'
            all_goals first
              | (exfalso; clear hend hS; simp only [beq_iff_eq] at *; omega)
              | exact hend (by clear hend hS; simp only [opKnown, *, Bool.false_eq_true, if_true, if_false])
              | exact LNext.mk (i + 1) ⟨by omega, by rw [hS]; clear hend hS; simp only [opKnown, *, Bool.false_eq_true, if_true, if_false]⟩ (by omega) (by (refine wk_mk ?_ ?_ ?_ <;> simp only [frm, List.foldl_cons, List.foldl_nil, List.replicate_succ, List.replicate_zero, WkT, WkO, AV.v.injEq, Value.int.injEq, Value.bool.injEq, Value.string.injEq, AV.vec.injEq, AV.ptr.injEq, true_or, or_true, false_or, or_false, AObj.mk.injEq, forall_eq_apply_imp_iff, forall_eq, forall_eq', go_sem, Nat.reduceAdd, Nat.reduceSub, Nat.reduceMul, Nat.reduceLeDiff, Nat.reduceEqDiff, Nat.reduceLT, Int.reduceToNat, ↓reduceIte, reduceCtorEq, Int.reduceLE, Int.reduceLT, Int.reduceNeg, Int.reduceEq, Int.reduceBEq, Int.reduceBNe]))
          · have hall : os.all (opKnown vs es) = true := by rw [← hP, show i = os.length by (try simp only [bne_iff_ne, ne_eq, bne_eq_false_iff_eq, beq_iff_eq, beq_eq_false_iff_ne, decide_eq_true_eq, decide_eq_false_iff_not, Bool.not_eq_true', Bool.not_eq_false', Bool.not_eq_eq_eq_not, Bool.not_true, Bool.not_false, Int.natCast_inj, Int.ofNat_lt, Int.ofNat_le] at h); omega, List.take_length]
            repeat (first | (with_reducible first | refine Stp.up ?_ | refine fun (K : AS → Prop) hK => ?_ | refine awp_drawE (by decide +kernel) (by kernel_rfl) ?_ | refine awp_draw (by kernel_rfl) (by decide) ?_ | refine awp_boxes (by kernel_rfl) (by kernel_rfl) (by kernel_rfl) ?_ | refine adrawE_k (by decide) ?_ | refine adrawE_eff (by decide) ?_ | refine abox_plain (by decide) ?_ | refine abox_al ?_ | refine abox_st ?_) | (with_reducible refine hK _ ?_; clear hK; clear K) | simp only [go_sem, Nat.reduceAdd, Nat.reduceSub, Nat.reduceMul, Nat.reduceLeDiff, Nat.reduceEqDiff, Nat.reduceLT, Int.reduceToNat, ↓reduceIte, reduceCtorEq, Int.reduceLE, Int.reduceLT, Int.reduceNeg, Int.reduceEq, Int.reduceBEq, Int.reduceBNe] | (with_reducible refine And.intro (by omega) ?_) | (clear hK; clear K))
            refine awp_loopK (ι := Nat) 13 (fun i => [(10, .v (.int .i64 i)), (11, .undef), (12, .undef)]) (fun i => cs.length - i) (fun i => i ≤ cs.length ∧ (cs.take i).any typeBad = false) 0 ⟨by omega, rfl⟩ ?_ ?_
            · (refine wk_mk ?_ ?_ ?_ <;> simp only [frm, List.foldl_cons, List.foldl_nil, List.replicate_succ, List.replicate_zero, WkT, WkO, AV.v.injEq, Value.int.injEq, Value.bool.injEq, Value.string.injEq, AV.vec.injEq, AV.ptr.injEq, true_or, or_true, false_or, or_false, AObj.mk.injEq, forall_eq_apply_imp_iff, forall_eq, forall_eq', go_sem, Nat.reduceAdd, Nat.reduceSub, Nat.reduceMul, Nat.reduceLeDiff, Nat.reduceEqDiff, Nat.reduceLT, Int.reduceToNat, ↓reduceIte, reduceCtorEq, Int.reduceLE, Int.reduceLT, Int.reduceNeg, Int.reduceEq, Int.reduceBEq, Int.reduceBNe])
              rfl
            · rintro i ⟨hi, hP⟩ K hK
              repeat (first | (with_reducible first | refine Stp.up ?_ | refine fun (K : AS → Prop) hK => ?_ | refine awp_drawE (by decide +kernel) (by kernel_rfl) ?_ | refine awp_draw (by kernel_rfl) (by decide) ?_ | refine awp_boxes (by kernel_rfl) (by kernel_rfl) (by kernel_rfl) ?_ | refine adrawE_k (by decide) ?_ | refine adrawE_eff (by decide) ?_ | refine abox_plain (by decide) ?_ | refine abox_al ?_ | refine abox_st ?_) | (with_reducible refine hK _ ?_; clear hK; clear K) | simp only [go_sem, Nat.reduceAdd, Nat.reduceSub, Nat.reduceMul, Nat.reduceLeDiff, Nat.reduceEqDiff, Nat.reduceLT, Int.reduceToNat, ↓reduceIte, reduceCtorEq, Int.reduceLE, Int.reduceLT, Int.reduceNeg, Int.reduceEq, Int.reduceBEq, Int.reduceBNe] | (with_reducible refine And.intro (by omega) ?_) | (clear hK; clear K))
              refine AIf.part (fun h => ?_) (fun h => ?_)
              · have hlt : i < cs.length := by (try simp only [bne_iff_ne, ne_eq, bne_eq_false_iff_eq, beq_iff_eq, beq_eq_false_iff_ne, decide_eq_true_eq, decide_eq_false_iff_not, Bool.not_eq_true', Bool.not_eq_false', Bool.not_eq_eq_eq_not, Bool.not_true, Bool.not_false, Int.natCast_inj, Int.ofNat_lt, Int.ofNat_le] at h); omega
                have eW := wrap_succ (k := i) (by omega)
                have eG := getD_map encC cs i [] hlt
                have K1 := kind14_c cs[i].left
                have K2 := kind14_c cs[i].right
                simp only [encC, encO] at K1 K2 eG
                have hS : (cs.take (i + 1)).any typeBad = typeBad cs[i] := by
                  rw [List.take_succ_eq_append_getElem hlt, List.any_append, hP]; simp
                have hend : typeBad cs[i] = true → Value.int .i64 10 = Value.int .i64 res := fun hx => by
                  have : cs.any typeBad = true := List.any_eq_true.2 ⟨_, List.getElem_mem hlt, hx⟩
                  rw [hR]
                  simp only [if_true, hall, this]
                repeat' (first | (with_reducible first | refine Stp.up ?_ | refine fun (K : AS → Prop) hK => ?_ | refine awp_drawE (by decide +kernel) (by kernel_rfl) ?_ | refine awp_draw (by kernel_rfl) (by decide) ?_ | refine awp_boxes (by kernel_rfl) (by kernel_rfl) (by kernel_rfl) ?_ | refine adrawE_k (by decide) ?_ | refine adrawE_eff (by decide) ?_ | refine abox_plain (by decide) ?_ | refine abox_al ?_ | refine abox_st ?_) | (with_reducible refine hK _ ?_; clear hK; clear K) | simp only [go_sem, Nat.reduceAdd, Nat.reduceSub, Nat.reduceMul, Nat.reduceLeDiff, Nat.reduceEqDiff, Nat.reduceLT, Int.reduceToNat, ↓reduceIte, reduceCtorEq, Int.reduceLE, Int.reduceLT, Int.reduceNeg, Int.reduceEq, Int.reduceBEq, Int.reduceBNe, eG, eW, Go.undef] | (with_reducible refine And.intro (by omega) ?_) | (clear hK; clear K) | (with_reducible refine ACallV.one (by assumption) ?_) | (with_reducible refine ACallS.one (by assumption) ?_) | (refine AIf.part (fun hb => ?_) (fun hb => ?_) <;> simp only [hb, go_sem, Nat.reduceAdd, Nat.reduceSub, Nat.reduceMul, Nat.reduceLeDiff, Nat.reduceEqDiff, Nat.reduceLT, Int.reduceToNat, ↓reduceIte, reduceCtorEq, Int.reduceLE, Int.reduceLT, Int.reduceNeg, Int.reduceEq, Int.reduceBEq, Int.reduceBNe, eG, eW, Go.undef]) | (refine AIf.part (fun hb => ?_) (fun hb => ?_)) | (with_reducible refine ABoth.mk ?_ ?_))
                all_goals clear hV hE C1 C2 C3 C4 hR hok hp hkd hl eG hes hqo K1 K2
                all_goals first
                  | exact hend (by clear hend hS; simp only [typeBad, *, Bool.and_true, Bool.and_false, Bool.true_and, Bool.false_and])
                  | exact LNext.mk (i + 1) ⟨by omega, by rw [hS]; clear hend hS; simp only [typeBad, *, Bool.and_true, Bool.and_false, Bool.true_and, Bool.false_and]⟩ (by omega) (by (refine wk_mk ?_ ?_ ?_ <;> simp only [frm, List.foldl_cons, List.foldl_nil, List.replicate_succ, List.replicate_zero, WkT, WkO, AV.v.injEq, Value.int.injEq, Value.bool.injEq, Value.string.injEq, AV.vec.injEq, AV.ptr.injEq, true_or, or_true, false_or, or_false, AObj.mk.injEq, forall_eq_apply_imp_iff, forall_eq, forall_eq', go_sem, Nat.reduceAdd, Nat.reduceSub, Nat.reduceMul, Nat.reduceLeDiff, Nat.reduceEqDiff, Nat.reduceLT, Int.reduceToNat, ↓reduceIte, reduceCtorEq, Int.reduceLE, Int.reduceLT, Int.reduceNeg, Int.reduceEq, Int.reduceBEq, Int.reduceBNe]))
              · have e1 : cs.any typeBad = false := by rw [← hP, show i = cs.length by (try simp only [bne_iff_ne, ne_eq, bne_eq_false_iff_eq, beq_iff_eq, beq_eq_false_iff_ne, decide_eq_true_eq, decide_eq_false_iff_not, Bool.not_eq_true', Bool.not_eq_false', Bool.not_eq_eq_eq_not, Bool.not_true, Bool.not_false, Int.natCast_inj, Int.ofNat_lt, Int.ofNat_le] at h); omega, List.take_length]
                repeat (first | (with_reducible first | refine Stp.up ?_ | refine fun (K : AS → Prop) hK => ?_ | refine awp_drawE (by decide +kernel) (by kernel_rfl) ?_ | refine awp_draw (by kernel_rfl) (by decide) ?_ | refine awp_boxes (by kernel_rfl) (by kernel_rfl) (by kernel_rfl) ?_ | refine adrawE_k (by decide) ?_ | refine adrawE_eff (by decide) ?_ | refine abox_plain (by decide) ?_ | refine abox_al ?_ | refine abox_st ?_) | (with_reducible refine hK _ ?_; clear hK; clear K) | simp only [go_sem, Nat.reduceAdd, Nat.reduceSub, Nat.reduceMul, Nat.reduceLeDiff, Nat.reduceEqDiff, Nat.reduceLT, Int.reduceToNat, ↓reduceIte, reduceCtorEq, Int.reduceLE, Int.reduceLT, Int.reduceNeg, Int.reduceEq, Int.reduceBEq, Int.reduceBNe] | (with_reducible refine And.intro (by omega) ?_) | (clear hK; clear K))
                refine congrArg (Value.int .i64) ?_
                rw [hR]
                simp only [if_true, hall, e1, Bool.false_eq_true, if_false]
  · refine congrArg (Value.int .i64) ?_
    rw [hR, hb]; rfl
end Go.Proofs.Yteihcfhdhkamfaa
