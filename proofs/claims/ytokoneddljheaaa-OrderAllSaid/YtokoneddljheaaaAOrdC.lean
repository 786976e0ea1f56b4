/- order.Of: the walk. -/
import Derived.Test.YtokoneddljheaaaAOrdB
set_option linter.unusedSimpArgs false
set_option linter.unusedVariables false
namespace Go.Proofs.Ytokoneddljheaaa
open Go.RowKit

/-- what holds at the loop's head -/
structure OfI (ps : List Pat) (bq : AObj) (x : List (Option AObj) × (Nat × Nat) × (List Nat × List Nat)) : Prop where
  q : x.1[0]? = some (some bq)
  a : x.1[x.2.1.1]? = some (some ⟨3, 1, true, encN x.2.2.1⟩)
  b : x.1[x.2.1.2]? = some (some ⟨3, 1, true, encN x.2.2.2⟩)
  ne : x.2.1.1 ≠ x.2.1.2 ∧ x.2.1.1 ≠ 0 ∧ x.2.1.2 ≠ 0
  nd : x.2.2.2.Nodup
  lt : ∀ k, k ∈ x.2.2.2 → k < ps.length
  lo : ∀ k, k ∈ x.2.2.1 → k < ps.length
  le : x.2.2.1.length + x.2.2.2.length ≤ ps.length
  of : ofL ps x.2.2.2.length x.2.2.1 x.2.2.2 = ordL ps
theorem OfI.next {ps : List Pat} {bq : AObj} {o o' : List (Option AObj)} {a b a' b' : Nat} {out left : List Nat} (h : OfI ps bq (o, (a, b), (out, left))) (hne : left ≠ []) (h0 : o'[0]? = some (some bq))
    (h1 : o'[a']? = some (some ⟨3, 1, true, encN (out ++ [nextK ps out left])⟩)) (h2 : o'[b']? = some (some ⟨3, 1, true, encN (left.filter (fun j => j != nextK ps out left))⟩)) (hn : a' ≠ b' ∧ a' ≠ 0 ∧ b' ≠ 0) :
    OfI ps bq (o', (a', b'), (out ++ [nextK ps out left], left.filter (fun j => j != nextK ps out left))) ∧ (left.filter (fun j => j != nextK ps out left)).length < left.length := by
  have hm := nextK_mem ps out hne
  have hnd : left.Nodup := h.nd
  have hl := filter_len hnd hm
  have hle : out.length + left.length ≤ ps.length := h.le
  have hof : ofL ps left.length out left = ordL ps := h.of
  refine ⟨⟨h0, h1, h2, hn, hnd.filter _, fun k hk => h.lt k (List.mem_filter.1 hk).1, fun k hk => ?_, by simp only [List.length_append, List.length_singleton]; omega, ?_⟩, by omega⟩
  · rcases List.mem_append.1 hk with hk | hk
    · exact h.lo k hk
    · rw [List.mem_singleton.1 hk]; exact h.lt _ hm
  show ofL ps (left.filter (fun j => j != nextK ps out left)).length (out ++ [nextK ps out left]) (left.filter (fun j => j != nextK ps out left)) = _
  rw [← hl, ofL] at hof
  have he : left.isEmpty = false := by cases left <;> simp_all
  rw [he] at hof
  simpa using hof
set_option maxRecDepth 100000 in
set_option maxHeartbeats 4000000 in
theorem Of_c (q : Qry) (hk : q.ok) (h1 : q.pats.length ≤ 400000) (h2 : q.conds.length ≤ 1000000) (h3 : q.ret.length ≤ 1000000) :
    Call1 Try.prog 7 [.agg (encQ q)] (if chkQ q = 0 then .tup [.slc 1 (encN (ordL q.pats)) (ordL q.pats).length, .v (.int .i64 0)] else .tup [.v (.slice none 0 0), .v (.int .i64 (chkQ q))]) := by
  have C := query14_c q hk h1 h2 h3
  have hnl := nrmL_len q.pats
  have N := Normal_e q (by omega) (by omega)
  obtain ⟨ps, cs, rs, ra, sl⟩ := q
  simp only at h1 hnl
  simp only [encQ] at C N ⊢
  generalize chkQ ⟨ps, cs, rs, ra, sl⟩ = e at C ⊢
  by_cases he : e = 0
  · rw [he] at C ⊢
    rw [if_pos rfl]
    (refine Call1.enter Try.func7 rfl (by kernel_rfl) (by kernel_rfl) rfl (by simp only [go_sem, wfL, AV.wf, Bool.and_self, Bool.and_true, Bool.true_and, wf_encN]) (by simp only [go_sem, wfL, AV.wf, wf_encS, Bool.and_self, Bool.and_true, Bool.true_and, wf_encN]) ?_; simp only [Try.ntmps7, Try.results7, List.length_cons, List.length_nil, Nat.reduceAdd, Nat.reduceSub, List.replicate_succ, List.replicate_zero, List.cons_append, List.nil_append])
    repeat (first | (with_reducible first | refine Stp.up ?_ | refine fun (K : AS → Prop) hK => ?_ | refine awp_drawE (by decide +kernel) (by kernel_rfl) ?_ | refine awp_draw (by kernel_rfl) (by decide) ?_ | refine awp_boxes (by kernel_rfl) (by kernel_rfl) (by kernel_rfl) ?_ | refine adrawE_k (by decide) ?_ | refine adrawE_eff (by decide) ?_ | refine abox_plain (by decide) ?_ | refine abox_al ?_ | refine abox_st ?_ | refine adrawG_k (by decide) ?_ | refine adrawG_e (by decide) ?_) | (with_reducible refine hK _ ?_; clear hK; clear K) | simp only [go_sem, Nat.reduceAdd, Nat.reduceSub, Nat.reduceMul, Nat.reduceLeDiff, Nat.reduceEqDiff, Nat.reduceLT, Int.reduceToNat, ↓reduceIte, reduceCtorEq, Int.reduceLE, Int.reduceLT, Int.reduceNeg, Int.reduceEq, Int.reduceBEq, Int.reduceBNe] | (with_reducible refine And.intro (by omega) ?_) | (clear hK; clear K))
    refine ACallV.one C ?_
    repeat (first | (with_reducible first | refine Stp.up ?_ | refine fun (K : AS → Prop) hK => ?_ | refine awp_drawE (by decide +kernel) (by kernel_rfl) ?_ | refine awp_draw (by kernel_rfl) (by decide) ?_ | refine awp_boxes (by kernel_rfl) (by kernel_rfl) (by kernel_rfl) ?_ | refine adrawE_k (by decide) ?_ | refine adrawE_eff (by decide) ?_ | refine abox_plain (by decide) ?_ | refine abox_al ?_ | refine abox_st ?_ | refine adrawG_k (by decide) ?_ | refine adrawG_e (by decide) ?_) | (with_reducible refine hK _ ?_; clear hK; clear K) | simp only [go_sem, Nat.reduceAdd, Nat.reduceSub, Nat.reduceMul, Nat.reduceLeDiff, Nat.reduceEqDiff, Nat.reduceLT, Int.reduceToNat, ↓reduceIte, reduceCtorEq, Int.reduceLE, Int.reduceLT, Int.reduceNeg, Int.reduceEq, Int.reduceBEq, Int.reduceBNe] | (with_reducible refine And.intro (by omega) ?_) | (clear hK; clear K))
    refine ACallV.fr [] N (by simp) ?_ ?_ ?_ ?_ ?_
    · rfl
    · exact (renL_wf0 _ _ (by simp only [go_sem])).symm
    · simp only [List.length_nil, go_sem]
    · intro k ob hk; simp at hk
    repeat (first | (with_reducible first | refine Stp.up ?_ | refine fun (K : AS → Prop) hK => ?_ | refine awp_drawE (by decide +kernel) (by kernel_rfl) ?_ | refine awp_draw (by kernel_rfl) (by decide) ?_ | refine awp_boxes (by kernel_rfl) (by kernel_rfl) (by kernel_rfl) ?_ | refine adrawE_k (by decide) ?_ | refine adrawE_eff (by decide) ?_ | refine abox_plain (by decide) ?_ | refine abox_al ?_ | refine abox_st ?_ | refine adrawG_k (by decide) ?_ | refine adrawG_e (by decide) ?_) | (with_reducible refine hK _ ?_; clear hK; clear K) | simp only [go_sem, Nat.reduceAdd, Nat.reduceSub, Nat.reduceMul, Nat.reduceLeDiff, Nat.reduceEqDiff, Nat.reduceLT, Int.reduceToNat, ↓reduceIte, reduceCtorEq, Int.reduceLE, Int.reduceLT, Int.reduceNeg, Int.reduceEq, Int.reduceBEq, Int.reduceBNe] | (with_reducible refine And.intro (by omega) ?_) | (clear hK; clear K))
    have eR : renR (sig [] 1) (encN (nrmL ps)) = encN (nrmL ps) := renR_wf0 _ _ (wf_encN _ _)
    simp only [eR]
    refine awp_loopV (ι := List (Option AObj) × (Nat × Nat) × (List Nat × List Nat)) 2 3 1 rfl (by decide) 7 (fun x => [(0, .undef), (2, .vec x.2.1.1 x.2.2.1.length), (4, .undef), (5, .vec x.2.1.2 x.2.2.2.length), (6, .undef)]) (fun x => x.1) (fun x => x.2.2.2.length)
      (OfI ps ⟨26, 5, false, [[.slc 8 (ps.map encP) ps.length, .slc 13 (cs.map encC) cs.length, .slc 6 (rs.map encO) rs.length, .v (.int .i64 ra), .v (.int .i64 sl)]]⟩)
      ([some ⟨26, 5, false, [[.slc 8 (ps.map encP) ps.length, .slc 13 (cs.map encC) cs.length, .slc 6 (rs.map encO) rs.length, .v (.int .i64 ra), .v (.int .i64 sl)]]⟩, none, none, some ⟨3, 1, true, encN (nrmL ps)⟩, some ⟨3, 1, true, []⟩], (4, 3), ([], nrmL ps))
      ⟨rfl, rfl, rfl, ⟨show (4 : Nat) ≠ 3 by decide, show (4 : Nat) ≠ 0 by decide, show (3 : Nat) ≠ 0 by decide⟩, (nrmL_rise ps).imp (fun h => by omega), fun k hk => nrmL_lt hk, fun k hk => by simp at hk, by simpa using hnl, rfl⟩ ?_ ?_
    · (refine wk_mk ?_ ?_ ?_ <;> simp only [frm, List.foldl_cons, List.foldl_nil, List.replicate_succ, List.replicate_zero, WkT, WkO, AV.v.injEq, Value.int.injEq, Value.bool.injEq, Value.string.injEq, AV.vec.injEq, AV.ptr.injEq, true_or, or_true, false_or, or_false, AObj.mk.injEq, forall_eq_apply_imp_iff, forall_eq, forall_eq', go_sem, Nat.reduceAdd, Nat.reduceSub, Nat.reduceMul, Nat.reduceLeDiff, Nat.reduceEqDiff, Nat.reduceLT, Int.reduceToNat, ↓reduceIte, reduceCtorEq, Int.reduceLE, Int.reduceLT, Int.reduceNeg, Int.reduceEq, Int.reduceBEq, Int.reduceBNe])
      exact wf_encN _ _
    rintro ⟨o, ⟨a, b⟩, ⟨out, left⟩⟩ hI K hK
    obtain ⟨na, nb, nc⟩ := hI.ne
    have oq : o[0]? = _ := hI.q
    have oa : o[a]? = _ := hI.a
    have ob : o[b]? = _ := hI.b
    simp only at na nb nc
    repeat ((fail_if_success (with_reducible refine stopR (i := 5) ?_)); first | (with_reducible first | refine Stp.up ?_ | refine fun (K : AS → Prop) hK => ?_ | refine adrawE_k (by decide) ?_ | refine adrawE_eff (by decide) ?_ | refine abox_plain (by decide) ?_ | refine abox_al ?_ | refine abox_st ?_ | refine adrawG_k (by decide) ?_ | refine adrawG_e (by decide) ?_) | (with_reducible refine hK _ ?_; clear hK; clear K) | simp only [go_sem, Nat.reduceAdd, Nat.reduceSub, Nat.reduceMul, Nat.reduceLeDiff, Nat.reduceEqDiff, Nat.reduceLT, Int.reduceToNat, ↓reduceIte, reduceCtorEq, Int.reduceLE, Int.reduceLT, Int.reduceNeg, Int.reduceEq, Int.reduceBEq, Int.reduceBNe] | (with_reducible refine And.intro (by omega) ?_) | (clear hK; clear K))
    have eZ : ∀ f l, renR f (encN l) = encN l := fun f l => renR_wf0 _ _ (wf_encN _ _)
    refine awp_sel [0, a, b] (frm 32 [(1, .ptr 0 0 5 0 0), (2, .vec 1 out.length), (3, .v (.int .i64 0)), (5, .vec 2 left.length)]) [some ⟨26, 5, false, [[.slc 8 (ps.map encP) ps.length, .slc 13 (cs.map encC) cs.length, .slc 6 (rs.map encO) rs.length, .v (.int .i64 ra), .v (.int .i64 sl)]]⟩, some ⟨3, 1, true, encN out⟩, some ⟨3, 1, true, encN left⟩] (by simp; omega) ?_ ?_ ?_ (by kernel_rfl) ?_
    · have eQ : ∀ f, renR f [[.slc 8 (ps.map encP) ps.length, .slc 13 (cs.map encC) cs.length, .slc 6 (rs.map encO) rs.length, .v (.int .i64 ra), .v (.int .i64 sl)]] = [[.slc 8 (ps.map encP) ps.length, .slc 13 (cs.map encC) cs.length, .slc 6 (rs.map encO) rs.length, .v (.int .i64 ra), .v (.int .i64 sl)]] := fun f => renR_wf0 _ _ (by simp only [go_sem, Bool.and_self, Bool.and_true])
      simp only [List.map_cons, List.map_nil, oq, oa, ob, Option.map_some, AObj.ren, eZ, eQ]
    · intro k ob' hk'
      match k, hk' with
      | 0, hk' => cases hk'; simp only [go_sem, Bool.and_self, Bool.and_true]
      | 1, hk' => cases hk'; exact wf_encN _ _
      | 2, hk' => cases hk'; exact wf_encN _ _
      | k + 3, hk' => simp at hk'
    · simp only [frm, List.foldl_cons, List.foldl_nil, List.replicate_succ, List.replicate_zero, go_sem, Nat.reduceAdd, Nat.reduceSub, Nat.reduceMul, Nat.reduceLeDiff, Nat.reduceEqDiff, Nat.reduceLT, Int.reduceToNat, ↓reduceIte, reduceCtorEq, Int.reduceLE, Int.reduceLT, Int.reduceNeg, Int.reduceEq, Int.reduceBEq, Int.reduceBNe]
      simp only [SelT, AV.ren, sig, go_sem]
      simp
    simp only [frm, List.foldl_cons, List.foldl_nil, List.replicate_succ, List.replicate_zero, go_sem, Nat.reduceAdd, Nat.reduceSub, Nat.reduceMul, Nat.reduceLeDiff, Nat.reduceEqDiff, Nat.reduceLT, Int.reduceToNat, ↓reduceIte, reduceCtorEq, Int.reduceLE, Int.reduceLT, Int.reduceNeg, Int.reduceEq, Int.reduceBEq, Int.reduceBNe]
    have eLl : (encN left).length = left.length := by simp [encN]
    have eLo : (encN out).length = out.length := by simp [encN]
    repeat (first | (with_reducible first | refine Stp.up ?_ | refine fun (K : AS → Prop) hK => ?_ | refine awp_drawE (by decide +kernel) (by kernel_rfl) ?_ | refine awp_draw (by kernel_rfl) (by decide) ?_ | refine awp_boxes (by kernel_rfl) (by kernel_rfl) (by kernel_rfl) ?_ | refine adrawE_k (by decide) ?_ | refine adrawE_eff (by decide) ?_ | refine abox_plain (by decide) ?_ | refine abox_al ?_ | refine abox_st ?_ | refine adrawG_k (by decide) ?_ | refine adrawG_e (by decide) ?_) | (with_reducible refine hK _ ?_; clear hK; clear K) | simp only [go_sem, Nat.reduceAdd, Nat.reduceSub, Nat.reduceMul, Nat.reduceLeDiff, Nat.reduceEqDiff, Nat.reduceLT, Int.reduceToNat, ↓reduceIte, reduceCtorEq, Int.reduceLE, Int.reduceLT, Int.reduceNeg, Int.reduceEq, Int.reduceBEq, Int.reduceBNe, eLl] | (with_reducible refine And.intro (by omega) ?_) | (clear hK; clear K))
    refine AIf.part (fun hc => ?_) (fun hc => ?_)
    · have hne : left ≠ [] := by
        rintro rfl
        simp at hc
      have V : CallS Try.prog 13 [.vec 1 out.length] [some ⟨26, 5, false, [[.slc 8 (ps.map encP) ps.length, .slc 13 (cs.map encC) cs.length, .slc 6 (rs.map encO) rs.length, .v (.int .i64 ra), .v (.int .i64 sl)]]⟩, some ⟨3, 1, true, encN out⟩, some ⟨3, 1, true, encN left⟩] (.fn 37 [] [.vp [.vec 1 out.length]]) := by
        have := valuesN_s (o := [some ⟨26, 5, false, [[.slc 8 (ps.map encP) ps.length, .slc 13 (cs.map encC) cs.length, .slc 6 (rs.map encO) rs.length, .v (.int .i64 ra), .v (.int .i64 sl)]]⟩, some ⟨3, 1, true, encN out⟩, some ⟨3, 1, true, encN left⟩]) (id := 1) (ob := ⟨3, 1, true, encN out⟩) rfl rfl
        simpa only [eLo] using this
      have eI : (toI out).map encI = encN out := by simp [toI, encN, encI]
      have hol : out.length + left.length ≤ ps.length := hI.le
      have NN := Names_n ⟨ps, cs, rs, ra, sl⟩ (gf := 37) (caps := [.vp [.slc 1 (encN out) out.length]]) (toI out) (show ps.length ≤ 1000000 by omega) (by simp [toI]; omega) (fun k hk => by
        simp only [toI, List.mem_map] at hk
        obtain ⟨j, hj, rfl⟩ := hk
        have := hI.lo j hj
        omega) (by rw [eI]; exact valuesN_seq out (by omega)) (by simp only [go_sem, wf_encN, Bool.and_self])
      have FF := first_c ⟨ps, cs, rs, ra, sl⟩ (namesL ps (toI out)) left (show ps.length ≤ 1000000 by omega) (by omega) hne hI.lt
      have hk1 : maxF (rankN ps (namesL ps (toI out))) (left.drop 1) (left.getD 0 0) = nextK ps out left := by
        cases left with
        | nil => exact absurd rfl hne
        | cons x l => rfl
      simp only [encQ, strsA] at NN FF
      rw [hk1] at FF
      have hN := fun o' a' b' => hI.next (o' := o') (a' := a') (b' := b') hne
      generalize nextK ps out left = k at FF hN
      generalize namesL ps (toI out) = names at NN FF
      repeat (first | (with_reducible first | refine Stp.up ?_ | refine fun (K : AS → Prop) hK => ?_ | refine awp_drawE (by decide +kernel) (by kernel_rfl) ?_ | refine awp_draw (by kernel_rfl) (by decide) ?_ | refine awp_boxes (by kernel_rfl) (by kernel_rfl) (by kernel_rfl) ?_ | refine adrawE_k (by decide) ?_ | refine adrawE_eff (by decide) ?_ | refine abox_plain (by decide) ?_ | refine abox_al ?_ | refine abox_st ?_ | refine adrawG_k (by decide) ?_ | refine adrawG_e (by decide) ?_) | (with_reducible refine hK _ ?_; clear hK; clear K) | simp only [go_sem, Nat.reduceAdd, Nat.reduceSub, Nat.reduceMul, Nat.reduceLeDiff, Nat.reduceEqDiff, Nat.reduceLT, Int.reduceToNat, ↓reduceIte, reduceCtorEq, Int.reduceLE, Int.reduceLT, Int.reduceNeg, Int.reduceEq, Int.reduceBEq, Int.reduceBNe, eLl] | (with_reducible refine And.intro (by omega) ?_) | (clear hK; clear K))
      refine ACallS.s V ?_
      repeat (first | (with_reducible first | refine Stp.up ?_ | refine fun (K : AS → Prop) hK => ?_ | refine awp_drawE (by decide +kernel) (by kernel_rfl) ?_ | refine awp_draw (by kernel_rfl) (by decide) ?_ | refine awp_boxes (by kernel_rfl) (by kernel_rfl) (by kernel_rfl) ?_ | refine adrawE_k (by decide) ?_ | refine adrawE_eff (by decide) ?_ | refine abox_plain (by decide) ?_ | refine abox_al ?_ | refine abox_st ?_ | refine adrawG_k (by decide) ?_ | refine adrawG_e (by decide) ?_) | (with_reducible refine hK _ ?_; clear hK; clear K) | simp only [go_sem, Nat.reduceAdd, Nat.reduceSub, Nat.reduceMul, Nat.reduceLeDiff, Nat.reduceEqDiff, Nat.reduceLT, Int.reduceToNat, ↓reduceIte, reduceCtorEq, Int.reduceLE, Int.reduceLT, Int.reduceNeg, Int.reduceEq, Int.reduceBEq, Int.reduceBNe] | (with_reducible refine And.intro (by omega) ?_) | (clear hK; clear K))
      refine ACallS.s (CallS.fresh NN ⟨.of 40 rfl (by simp only [go_sem, Nat.reduceLT, Nat.reduceLeDiff, Nat.reduceEqDiff, Nat.lt_add_one, Nat.zero_lt_one, and_self]), .fn trivial ⟨.vp ⟨.of 40 rfl (by simp only [go_sem, Nat.reduceLT, Nat.reduceLeDiff, Nat.reduceEqDiff, Nat.lt_add_one, Nat.zero_lt_one, and_self, eLo, wf_encN]), trivial⟩, trivial⟩, trivial⟩) ?_
      repeat (first | (with_reducible first | refine Stp.up ?_ | refine fun (K : AS → Prop) hK => ?_ | refine awp_drawE (by decide +kernel) (by kernel_rfl) ?_ | refine awp_draw (by kernel_rfl) (by decide) ?_ | refine awp_boxes (by kernel_rfl) (by kernel_rfl) (by kernel_rfl) ?_ | refine adrawE_k (by decide) ?_ | refine adrawE_eff (by decide) ?_ | refine abox_plain (by decide) ?_ | refine abox_al ?_ | refine abox_st ?_ | refine adrawG_k (by decide) ?_ | refine adrawG_e (by decide) ?_) | (with_reducible refine hK _ ?_; clear hK; clear K) | simp only [go_sem, Nat.reduceAdd, Nat.reduceSub, Nat.reduceMul, Nat.reduceLeDiff, Nat.reduceEqDiff, Nat.reduceLT, Int.reduceToNat, ↓reduceIte, reduceCtorEq, Int.reduceLE, Int.reduceLT, Int.reduceNeg, Int.reduceEq, Int.reduceBEq, Int.reduceBNe] | (with_reducible refine And.intro (by omega) ?_) | (clear hK; clear K))
      refine ACallS.frz FF 60 rfl (by simp only [go_sem, Nat.reduceLT, Nat.reduceLeDiff, Nat.reduceEqDiff, Nat.lt_add_one, Nat.zero_lt_one, and_self, eLl, wf_encN]) rfl ?_
      repeat (first | (with_reducible first | refine Stp.up ?_ | refine fun (K : AS → Prop) hK => ?_ | refine awp_drawE (by decide +kernel) (by kernel_rfl) ?_ | refine awp_draw (by kernel_rfl) (by decide) ?_ | refine awp_boxes (by kernel_rfl) (by kernel_rfl) (by kernel_rfl) ?_ | refine adrawE_k (by decide) ?_ | refine adrawE_eff (by decide) ?_ | refine abox_plain (by decide) ?_ | refine abox_al ?_ | refine abox_st ?_ | refine adrawG_k (by decide) ?_ | refine adrawG_e (by decide) ?_) | (with_reducible refine hK _ ?_; clear hK; clear K) | simp only [go_sem, Nat.reduceAdd, Nat.reduceSub, Nat.reduceMul, Nat.reduceLeDiff, Nat.reduceEqDiff, Nat.reduceLT, Int.reduceToNat, ↓reduceIte, reduceCtorEq, Int.reduceLE, Int.reduceLT, Int.reduceNeg, Int.reduceEq, Int.reduceBEq, Int.reduceBNe, eLo] | (with_reducible refine And.intro (by omega) ?_) | (clear hK; clear K))
      refine ACallV.fr [2, 3] (deleteN_e left k (by omega) hne) (by decide) ?_ ?_ ?_ ?_ ?_
      · simp only [List.map_cons, List.map_nil, List.getElem?_cons_zero, List.getElem?_cons_succ, Option.map_some, AObj.ren, eZ]
        rfl
      · rfl
      · rfl
      · intro j ob' hj
        match j, hj with
        | 0, hj => cases hj; exact wf_encN _ _
        | 1, hj => cases hj; rfl
        | j + 2, hj => simp at hj
      repeat (first | (with_reducible first | refine Stp.up ?_ | refine fun (K : AS → Prop) hK => ?_ | refine awp_drawE (by decide +kernel) (by kernel_rfl) ?_ | refine awp_draw (by kernel_rfl) (by decide) ?_ | refine awp_boxes (by kernel_rfl) (by kernel_rfl) (by kernel_rfl) ?_ | refine adrawE_k (by decide) ?_ | refine adrawE_eff (by decide) ?_ | refine abox_plain (by decide) ?_ | refine abox_al ?_ | refine abox_st ?_ | refine adrawG_k (by decide) ?_ | refine adrawG_e (by decide) ?_) | (with_reducible refine hK _ ?_; clear hK; clear K) | simp only [go_sem, Nat.reduceAdd, Nat.reduceSub, Nat.reduceMul, Nat.reduceLeDiff, Nat.reduceEqDiff, Nat.reduceLT, Int.reduceToNat, ↓reduceIte, reduceCtorEq, Int.reduceLE, Int.reduceLT, Int.reduceNeg, Int.reduceEq, Int.reduceBEq, Int.reduceBNe] | (with_reducible refine And.intro (by omega) ?_) | (clear hK; clear K))
      have eA : encN out ++ [[AV.v (.int .i64 (k : Int))]] = encN (out ++ [k]) := by simp [encN]
      have eB : out.length + 1 = (out ++ [k]).length := by simp
      obtain ⟨g1, g2⟩ := hN [some ⟨26, 5, false, [[.slc 8 (ps.map encP) ps.length, .slc 13 (cs.map encC) cs.length, .slc 6 (rs.map encO) rs.length, .v (.int .i64 ra), .v (.int .i64 sl)]]⟩, some ⟨3, 1, true, encN (out ++ [k])⟩, none, none, none, some ⟨3, 1, true, encN (left.filter (fun j => j != k))⟩] 1 5 rfl rfl rfl (by decide)
      simp only [eZ, eA, eB]
      exact LNext.mk (_, (1, 5), (out ++ [k], left.filter (fun j => j != k))) g1 g2 (by
        (refine wk_mk ?_ ?_ ?_ <;> simp only [frm, List.foldl_cons, List.foldl_nil, List.replicate_succ, List.replicate_zero, WkT, WkO, AV.v.injEq, Value.int.injEq, Value.bool.injEq, Value.string.injEq, AV.vec.injEq, AV.ptr.injEq, true_or, or_true, false_or, or_false, AObj.mk.injEq, forall_eq_apply_imp_iff, forall_eq, forall_eq', go_sem, Nat.reduceAdd, Nat.reduceSub, Nat.reduceMul, Nat.reduceLeDiff, Nat.reduceEqDiff, Nat.reduceLT, Int.reduceToNat, ↓reduceIte, reduceCtorEq, Int.reduceLE, Int.reduceLT, Int.reduceNeg, Int.reduceEq, Int.reduceBEq, Int.reduceBNe])
        exact ⟨wf_encN _ _, wf_encN _ _⟩)
    · have hnil : left = [] := by
        have : left.length = 0 := by (try simp only [bne_iff_ne, ne_eq, bne_eq_false_iff_eq, beq_iff_eq, beq_eq_false_iff_ne, decide_eq_true_eq, decide_eq_false_iff_not, Bool.not_eq_true', Bool.not_eq_false', Bool.not_eq_eq_eq_not, Bool.not_true, Bool.not_false, Int.natCast_inj, Int.ofNat_lt, Int.ofNat_le] at hc); omega
        exact List.eq_nil_of_length_eq_zero this
      have hO : out = ordL ps := by
        have := hI.of
        rw [hnil] at this
        simpa [ofL] using this
      rw [hO] at *
      repeat (first | (with_reducible first | refine Stp.up ?_ | refine fun (K : AS → Prop) hK => ?_ | refine awp_drawE (by decide +kernel) (by kernel_rfl) ?_ | refine awp_draw (by kernel_rfl) (by decide) ?_ | refine awp_boxes (by kernel_rfl) (by kernel_rfl) (by kernel_rfl) ?_ | refine adrawE_k (by decide) ?_ | refine adrawE_eff (by decide) ?_ | refine abox_plain (by decide) ?_ | refine abox_al ?_ | refine abox_st ?_ | refine adrawG_k (by decide) ?_ | refine adrawG_e (by decide) ?_) | (with_reducible refine hK _ ?_; clear hK; clear K) | simp only [go_sem, Nat.reduceAdd, Nat.reduceSub, Nat.reduceMul, Nat.reduceLeDiff, Nat.reduceEqDiff, Nat.reduceLT, Int.reduceToNat, ↓reduceIte, reduceCtorEq, Int.reduceLE, Int.reduceLT, Int.reduceNeg, Int.reduceEq, Int.reduceBEq, Int.reduceBNe, eLo] | (with_reducible refine And.intro (by omega) ?_) | (clear hK; clear K))
      refine AFz.of 40 rfl ?_
      simp only [go_sem, eLo]
      exact ⟨by simp [encN], wf_encN _ _⟩
  · rw [if_neg he]
    (refine Call1.enter Try.func7 rfl (by kernel_rfl) (by kernel_rfl) rfl (by first | rfl | (simp only [go_sem, Bool.and_self, Bool.and_true, Bool.true_and])) (by first | rfl | (simp only [go_sem, Bool.and_self, Bool.and_true, Bool.true_and])) ?_; simp only [Try.ntmps7, Try.results7, List.length_cons, List.length_nil, Nat.reduceAdd, Nat.reduceSub, List.replicate_succ, List.replicate_zero, List.cons_append, List.nil_append])
    repeat (first | (with_reducible first | refine Stp.up ?_ | refine fun (K : AS → Prop) hK => ?_ | refine awp_drawE (by decide +kernel) (by kernel_rfl) ?_ | refine awp_draw (by kernel_rfl) (by decide) ?_ | refine awp_boxes (by kernel_rfl) (by kernel_rfl) (by kernel_rfl) ?_ | refine adrawE_k (by decide) ?_ | refine adrawE_eff (by decide) ?_ | refine abox_plain (by decide) ?_ | refine abox_al ?_ | refine abox_st ?_ | refine adrawG_k (by decide) ?_ | refine adrawG_e (by decide) ?_) | (with_reducible refine hK _ ?_; clear hK; clear K) | simp only [go_sem, Nat.reduceAdd, Nat.reduceSub, Nat.reduceMul, Nat.reduceLeDiff, Nat.reduceEqDiff, Nat.reduceLT, Int.reduceToNat, ↓reduceIte, reduceCtorEq, Int.reduceLE, Int.reduceLT, Int.reduceNeg, Int.reduceEq, Int.reduceBEq, Int.reduceBNe] | (with_reducible refine And.intro (by omega) ?_) | (clear hK; clear K))
    refine ACallV.one C ?_
    have hd : (e != 0) = true := bne_iff_ne.2 he
    repeat (first | (with_reducible first | refine Stp.up ?_ | refine fun (K : AS → Prop) hK => ?_ | refine awp_drawE (by decide +kernel) (by kernel_rfl) ?_ | refine awp_draw (by kernel_rfl) (by decide) ?_ | refine awp_boxes (by kernel_rfl) (by kernel_rfl) (by kernel_rfl) ?_ | refine adrawE_k (by decide) ?_ | refine adrawE_eff (by decide) ?_ | refine abox_plain (by decide) ?_ | refine abox_al ?_ | refine abox_st ?_ | refine adrawG_k (by decide) ?_ | refine adrawG_e (by decide) ?_) | (with_reducible refine hK _ ?_; clear hK; clear K) | simp only [go_sem, Nat.reduceAdd, Nat.reduceSub, Nat.reduceMul, Nat.reduceLeDiff, Nat.reduceEqDiff, Nat.reduceLT, Int.reduceToNat, ↓reduceIte, reduceCtorEq, Int.reduceLE, Int.reduceLT, Int.reduceNeg, Int.reduceEq, Int.reduceBEq, Int.reduceBNe, hd] | (with_reducible refine And.intro (by omega) ?_) | (clear hK; clear K))
    (refine AFz.of 40 rfl ?_; simp only [go_sem, Nat.reduceAdd, Nat.reduceSub, Nat.reduceMul, Nat.reduceLeDiff, Nat.reduceEqDiff, Nat.reduceLT, Int.reduceToNat, ↓reduceIte, reduceCtorEq, Int.reduceLE, Int.reduceLT, Int.reduceNeg, Int.reduceEq, Int.reduceBEq, Int.reduceBNe])
end Go.Proofs.Ytokoneddljheaaa
