/- tree.Rename, walked once more: what it tells lies in blocks that are none of A: the query. -/
import Derived.Test.YtldnlbcibmmbbaaRRenW
set_option linter.unusedSimpArgs false
set_option linter.unusedVariables false
namespace Go.Proofs.Ytldnlbcibmmbbaa
open Go.RowKit

def encPw (A : Nat → Prop) (p : Pat) : List AV := [.v (.string p.frm), .v (.string p.to), .v (.bool p.path), .v (.string p.label), .v (.string p.name), .v (.int .i64 p.expr.kind), .wit (evA A) (.v (.string p.expr.label)), .slc 3 (p.expr.kids.map (encW A)) p.expr.kids.length]
def encPf (A : Nat → Prop) (p : Pat) : List AV := [.v (.string p.frm), .v (.string p.to), .v (.bool p.path), .v (.string p.label), .v (.string p.name), .v (.int .i64 p.expr.kind), .wit (evA A) (.v (.string p.expr.label)), .wit (TEp A) (.slc 3 (p.expr.kids.map (encF A)) p.expr.kids.length)]
def encQw (A : Nat → Prop) (q : Qry) : List AV := [.slc 8 (q.pats.map (encPw A)) q.pats.length, .slc 13 (q.conds.map encC) q.conds.length, .slc 6 (q.ret.map encO) q.ret.length, .wit (evA A) (.v (.int .i64 q.range)), .v (.int .i64 q.slide)]
def encQf (A : Nat → Prop) (q : Qry) : List AV := [.wit (TPp A) (.slc 8 (q.pats.map (encPf A)) q.pats.length), .wit (TLp A 71 13) (.slc 13 (q.conds.map encC) q.conds.length), .wit (TLp A 64 6) (.slc 6 (q.ret.map encO) q.ret.length), .v (.int .i64 q.range), .v (.int .i64 q.slide)]
theorem wf_encPw (A : Nat → Prop) (n : Nat) (l : List Pat) : wfR n (l.map (encPw A)) = true := wfR_map _ (fun p => by simp only [encPw, wfL, AV.wf, wf_encW, Bool.and_true]) l
theorem wf_encPf (A : Nat → Prop) (n : Nat) (l : List Pat) : wfR n (l.map (encPf A)) = true := wfR_map _ (fun p => by simp only [encPf, wfL, AV.wf, wf_encF, Bool.and_true]) l
theorem wf_encQw (A : Nat → Prop) (n : Nat) (q : Qry) : wfL n (encQw A q) = true := by simp only [encQw, wfL, AV.wf, wf_encPw, wf_encC, wf_encO, Bool.and_true]
theorem wf_encQf (A : Nat → Prop) (n : Nat) (q : Qry) : wfL n (encQf A q) = true := by simp only [encQf, wfL, AV.wf, wf_encPf, wf_encC, wf_encO, Bool.and_true]
attribute [go_sem] wf_encPw wf_encPf wf_encQw wf_encQf
theorem le_encPf (A : Nat → Prop) (p : Pat) : LeL (encPf A p) (encP p) := by
 have := Le.rows (z := 3) (f := encF A) (g := encE) (xs := p.expr.kids) (more := []) (fun x _ => le_encF A x)
 rw [List.append_nil] at this
 exact .cons (.refl _) (.cons (.refl _) (.cons (.refl _) (.cons (.refl _) (.cons (.refl _) (.cons (.refl _) (.cons (.wit _ _ _ (.refl _)) (.cons (.wit _ _ _ this) .nil)))))))
theorem le_encQf (A : Nat → Prop) (q : Qry) : LeL (encQf A q) (encQ q) := by
 have := Le.rows (z := 8) (f := encPf A) (g := encP) (xs := q.pats) (more := []) (fun x _ => le_encPf A x)
 rw [List.append_nil] at this
 exact .cons (.wit _ _ _ this) (.cons (.wit _ _ _ (.refl _)) (.cons (.wit _ _ _ (.refl _)) (.cons (.refl _) (.cons (.refl _) .nil))))
def patW (A : Nat → Prop) (a b : List ByteArray) (ps : List Pat) (i : Nat) : List (List AV) := mixL (fun p => encPf A (mapP (renN a b) p)) (encPw A) ps i
theorem patW_wf (A : Nat → Prop) (a b : List ByteArray) (ps : List Pat) (i n : Nat) : wfR n (patW A a b ps i) = true := mixL_wf (by have := wf_encPf A n (ps.map (mapP (renN a b))); rw [List.map_map] at this; exact this) (wf_encPw A n ps)
theorem patW_all (A : Nat → Prop) (a b : List ByteArray) (ps : List Pat) : patW A a b ps ps.length = (ps.map (mapP (renN a b))).map (encPf A) := by rw [patW, mixL_all, List.map_map]; rfl

section
variable {o : List (Option AObj)} {A : Nat → Prop}
theorem frz_pats (l : List Pat) (hl : l.length ≤ 1000000) {D : Nat → Prop} {nu : Nat → Nat → Value} {w : World} (h : RO D nu o w) (hev : ∀ b, A b → Fz D nu o w b) {id : Nat} (ho : o[id]? = some (some ⟨45, 8, true, l.map (encPf A)⟩)) :
  RA D nu [] w (.wit (TPp A) (.slc 8 (l.map (encPf A)) l.length)) (nu id l.length) := by
 have hlen : (l.map (encPf A)).length = l.length := List.length_map _
 have := frz_wit (p := TPp A) h ho rfl (wf_encPf A 0 l) hev (fun S w x => TE S w x) 7 (fun i row hi => ?_) (fun S S' w' x h1 h2 h3 => h1.keep h2 h3) (fun S w' hS => ⟨hS, .nil⟩) (fun S w' b cap C h1 h2 h3 h4 h5 h6 h7 h8 => ?_)
 ·simp only [hlen] at this; exact this
 ·rw [List.getElem?_map] at hi
  obtain ⟨y, hy, rfl⟩ := Option.map_eq_some_iff.1 hi
  exact ⟨_, rfl⟩
 ·simp only [hlen] at h5 h7 h8 ⊢
  refine ⟨h1, .mk b _ cap C h2 h3 h4 h5 h6 hl (fun i hi => ⟨fun j hj => ?_, h7 i hi⟩)⟩
  have hr : (l.map (encPf A))[i]? = some (encPf A l[i]) := by simp [hi]
  exact h8 i j _ _ hr (List.getElem?_eq_getElem (by simp only [encPf, List.length_cons, List.length_nil]; omega))
theorem ev_box {D : Nat → Prop} {nu : Nat → Nat → Value} {w : World} (h : RO D nu o w) {m n : Nat} {Tb : TypeId} {zb : Nat} {row : List AV} {a : AV} (ho : o[m]? = some (some ⟨Tb, zb, false, [row]⟩)) (hz : zb ≠ 0) (hr : row[n]? = some (.wit (evA A) a)) : ∀ b, A b → Fz D nu o w b := by
 rcases h.obj m _ ho with ⟨e1, e2, e3⟩ | ⟨g, cur, hb⟩ | ⟨g, es, cl, hmp⟩
 ·cases e1
 ·have := hb.curLt (i := 0) rfl (List.getElem?_eq_some_iff.1 hr).1
  exact (hb.cell 0 n row _ _ rfl hr (Array.getElem?_eq_getElem this)).evd
 ·exact absurd hmp.z hz
theorem frz_query (m i j k : Nat) {Tb : TypeId} {zb : Nat} {row : List AV} {a : AV} (hz : zb ≠ 0) (o0 : o[m]? = some (some ⟨Tb, zb, false, [row]⟩)) (h3 : row[3]? = some (.wit (evA A) a)) (q : Qry) (h1 : q.pats.length ≤ 1000000) (h2 : q.conds.length ≤ 1000000) (hr : q.ret.length ≤ 1000000) (o1 : o[i]? = some (some ⟨45, 8, true, q.pats.map (encPf A)⟩)) (o2 : o[j]? = some (some ⟨71, 13, true, q.conds.map encC⟩)) (o3 : o[k]? = some (some ⟨64, 6, true, q.ret.map encO⟩)) :
  FrzS o (.tup [.agg [.vec i q.pats.length, .vec j q.conds.length, .vec k q.ret.length, .v (.int .i64 q.range), .v (.int .i64 q.slide)], .v (.int .i64 0)]) (.tup [.agg (encQf A q), .v (.int .i64 0)]) := by
 have key : FrzS o (.agg [.vec i q.pats.length, .vec j q.conds.length, .vec k q.ret.length, .v (.int .i64 q.range), .v (.int .i64 q.slide)]) (.agg (encQf A q)) := fun D nu w x hro hra => by
  cases hra with
  | agg _ xs k1 k2 k3 =>
   obtain ⟨xs⟩ := xs
   match xs, k1 with
   | [x0, x1, x2, x3, x4], _ =>
    have r0 := k2 0 _ x0 rfl rfl
    have r1 := k2 1 _ x1 rfl rfl
    have r2 := k2 2 _ x2 rfl rfl
    have r3 := k2 3 _ x3 rfl rfl
    have r4 := k2 4 _ x4 rfl rfl
    have hev : ∀ b, A b → Fz D nu o w b := ev_box hro o0 hz h3
    have e0 : x0 = nu i q.pats.length := by cases r0 with | vec => rfl
    have e1 : x1 = nu j q.conds.length := by cases r1 with | vec => rfl
    have e2 : x2 = nu k q.ret.length := by cases r2 with | vec => rfl
    refine .agg _ _ rfl (fun n c y q1 q2 => ?_) k3
    match n with
    | 0 => cases q1; cases q2; rw [e0]; exact frz_pats q.pats h1 hro hev o1
    | 1 =>
     cases q1; cases q2; rw [e1]
     have := frz_wit0 (A := A) hro o2 rfl (wf_encC 0 q.conds) hev (by simpa using h2)
     simpa using this
    | 2 =>
     cases q1; cases q2; rw [e2]
     have := frz_wit0 (A := A) hro o3 rfl (wf_encO 0 q.ret) hev (by simpa using hr)
     simpa using this
    | 3 => cases q1; cases q2; rw [r3.v_eq]; exact .v _
    | 4 => cases q1; cases q2; rw [r4.v_eq]; exact .v _
    | n + 5 => cases q1
 exact .tup ⟨key, .v _, trivial⟩
end

set_option maxRecDepth 100000 in
set_option maxHeartbeats 8000000 in
theorem renameW_c (A : Nat → Prop) (q : Qry) (a b : List ByteArray) (hq : q.lens 1000000) (hl : b.length = a.length) (ha : a.length ≤ 1000000) (hn : (onceL a).length = a.length) :
  Call1 Try.prog 8 [.agg (encQw A q), strsA a, strsA b] (.tup [.agg (encQf A (mapQ (renN a b) q)), .v (.int .i64 0)]) := by
 obtain ⟨hq1, hq2, hq3, hq4⟩ := hq
 have C1 := valuesT_c a
 have C2 := once_c (gf := 58) (caps := [.vp [strsA a]]) a ha (valuesT_seq a ha) (by simp only [wfL, AV.wf, strsA, wf_encS, Bool.and_self])
 obtain ⟨ps, cs, rs, ra, sl⟩ := q
 simp only at hq1 hq2 hq3 hq4
 have hd : decide (((onceL a).length : Int) < (a.length : Int)) = false := by simp [hn]
 have hl2 : ((a.length : Int) != (b.length : Int)) = false := by simp [hl]
 have hwf : wfL 0 [.agg (encQw A ⟨ps, cs, rs, ra, sl⟩), strsA a, strsA b] = true := by simp only [wfL, AV.wf, wf_encQw, strsA, wf_encS, Bool.and_self]
 simp only [encQw, strsA] at C1 C2 hwf ⊢
 refine Call1.enterS Try.func8 rfl (by kernel_rfl) (by kernel_rfl) rfl hwf (by simp only [AV.wf, wfL, wf_encQf, Bool.and_self]) ?_
 simp only [Try.ntmps8, Try.results8, List.length_cons, List.length_nil, Nat.reduceAdd, Nat.reduceSub, List.replicate_succ, List.replicate_zero, List.cons_append, List.nil_append]
 repeat (first | (with_reducible first | refine Stp.up ?_ | refine fun (K : AK) hK => ?_ | refine adrawG_k (by decide) ?_ | refine adrawG_e (by decide) ?_ | refine adrawM_k (by decide) ?_ | (refine hK _ ?_; clear hK K)) | simp only [go_sem] | with_reducible refine wA ?_ | clear hK K)
 refine wD ?_
 repeat (first | (with_reducible first | refine Stp.up ?_ | refine fun (K : AK) hK => ?_ | refine adrawG_k (by decide) ?_ | refine adrawG_e (by decide) ?_ | refine adrawM_k (by decide) ?_ | (refine hK _ ?_; clear hK K)) | simp only [go_sem, hl2] | with_reducible refine wA ?_ | clear hK K)
 refine ACallS.one C1 ?_
 repeat (first | (with_reducible first | refine Stp.up ?_ | refine fun (K : AK) hK => ?_ | refine adrawG_k (by decide) ?_ | refine adrawG_e (by decide) ?_ | refine adrawM_k (by decide) ?_ | (refine hK _ ?_; clear hK K)) | simp only [go_sem] | with_reducible refine wA ?_ | clear hK K)
 refine ACallS.one C2 ?_
 repeat (first | (with_reducible first | refine Stp.up ?_ | refine fun (K : AK) hK => ?_ | refine adrawG_k (by decide) ?_ | refine adrawG_e (by decide) ?_ | refine adrawM_k (by decide) ?_ | (refine hK _ ?_; clear hK K)) | simp only [go_sem, hd, hl2] | with_reducible refine wA ?_ | clear hK K)
 clear C1 C2 hd hl2
 (refine awp_drawM 12 (by decide +kernel) (by kernel_rfl) ?_; simp only [List.drop_succ_cons, List.drop_zero, List.take_succ_cons, List.take_zero])
 have eT1 : (ps.map (encPw A)).take ps.length = ps.map (encPw A) := take_all (by simp)
 have eT2 : (cs.map encC).take cs.length = cs.map encC := take_all (by simp)
 repeat (first | (with_reducible first | refine Stp.up ?_ | refine fun (K : AK) hK => ?_ | refine adrawG_k (by decide) ?_ | refine adrawG_e (by decide) ?_ | refine adrawM_k (by decide) ?_ | (refine hK _ ?_; clear hK K)) | simp only [go_sem, eT1, eT2] | with_reducible refine wA ?_ | clear hK K)
 clear eT1 eT2
 refine awp_loopO (ι := Nat) 59 (fun i => [(59, .v (.int .i64 i)), (10, .undef), (11, .undef)]) (fun i => [some ⟨26, 5, false, [[.slc 8 (ps.map (encPw A)) ps.length, .slc 13 (cs.map encC) cs.length, .slc 6 (rs.map encO) rs.length, .wit (evA A) (.v (.int .i64 ra)), .v (.int .i64 sl)]]⟩,
  some ⟨27, 1, false, [[.slc 1 (a.map encS) a.length]]⟩, some ⟨27, 1, false, [[.slc 1 (b.map encS) b.length]]⟩, some ⟨26, 5, false, [[.vec 5 ps.length, .vec 6 cs.length, .v (.slice none 0 0), .v (.int .i64 ra), .v (.int .i64 sl)]]⟩,
  some ⟨58, 1, false, [[.fn 27 [] [.ptr 1 0 1 0 0, .ptr 2 0 1 0 0]]]⟩, some ⟨45, 8, true, patW A a b ps i⟩, some ⟨71, 13, true, cs.map encC⟩]) (fun i => ps.length - i) (fun i => i ≤ ps.length) 0 (by omega) ?_ ?_
 ·(refine wk_mk ?_ ?_ ?_ <;> simp only [frm, List.foldl_cons, List.foldl_nil, List.replicate_succ, List.replicate_zero, WkT, WkO, AV.v.injEq, Value.int.injEq, Value.bool.injEq, Value.string.injEq, AV.vec.injEq, AV.ptr.injEq, true_or, or_true, false_or, or_false, AObj.mk.injEq, forall_eq_apply_imp_iff, forall_eq, forall_eq', go_sem])
  all_goals first | exact (mixL_0 _ _ _).symm | rfl | (refine ⟨(mixL_0 _ _ _).symm, ?_⟩; exact patW_wf _ _ _ _ _ _) | skip
 rintro i hi K hK
 repeat (first | (with_reducible first | refine Stp.up ?_ | refine fun (K : AK) hK => ?_ | refine adrawG_k (by decide) ?_ | refine adrawG_e (by decide) ?_ | refine adrawM_k (by decide) ?_ | (refine hK _ ?_; clear hK K)) | simp only [go_sem] | with_reducible refine wA ?_ | clear hK K)
 refine AIf.part (fun h => ?_) (fun h => ?_)
 ·have hlt : i < ps.length := by (try simp only [bne_iff_ne, ne_eq, bne_eq_false_iff_eq, beq_iff_eq, beq_eq_false_iff_ne, decide_eq_true_eq, decide_eq_false_iff_not, Bool.not_eq_eq_eq_not, Int.natCast_inj, Int.ofNat_lt, Int.ofNat_le] at h); omega
  have eW := wrap_succ (k := i) (by omega)
  have eL : (patW A a b ps i).length = ps.length := mixL_len _ _ _ _
  have eG : (patW A a b ps i).getD i [] = encPw A ps[i] := mixL_get _ _ _ _ hlt _
  have eS : (patW A a b ps i).set i (encPf A (mapP (renN a b) ps[i])) = patW A a b ps (i + 1) := mixL_set _ _ _ _ hlt
  have wP : ∀ n, wfR n (patW A a b ps i) = true := fun n => patW_wf _ _ _ _ _ _
  have N1 := named_c a b ps[i].frm hl
  have N2 := named_c a b ps[i].to hl
  have N3 := named_c a b ps[i].name hl
  have HX := copiedW_c A ps[i].expr (hq4 _ (List.getElem_mem hlt))
  have eGS : ∀ X, ((patW A a b ps i).set i X).getD i [] = X := fun X => getD_set_self (by rw [eL]; exact hlt) X []
  generalize patW A a b ps i = r at eL eG eS wP eGS ⊢
  generalize ps[i] = p at N1 N2 N3 HX eG eS
  simp only [encPw, encPf, encW_eq, encF_eq, mapP] at HX eG eS
  simp only [strsA] at N1 N2 N3
  repeat (first | (with_reducible first | refine Stp.up ?_ | refine fun (K : AK) hK => ?_ | refine adrawG_k (by decide) ?_ | refine adrawG_e (by decide) ?_ | refine adrawM_k (by decide) ?_ | (refine hK _ ?_; clear hK K)) | simp only [go_sem, h] | with_reducible refine wA ?_ | clear hK K)
  refine awp_drawG [22, 25, 28] [] (by decide +kernel) (by kernel_rfl) ?_
  repeat (first | (with_reducible first | refine Stp.up ?_ | refine fun (K : AK) hK => ?_ | refine adrawG_k (by decide) ?_ | refine adrawG_e (by decide) ?_ | refine adrawM_k (by decide) ?_ | (refine hK _ ?_; clear hK K)) | simp only [go_sem, eG, eL] | with_reducible refine wA ?_ | clear hK K)
  refine ACallS.frz N1 40 rfl (by simp only [go_sem, Nat.reduceLT, Nat.reduceLeDiff, Nat.reduceEqDiff, Nat.lt_add_one, Nat.zero_lt_one, and_self]) rfl ?_
  repeat (first | (with_reducible first | refine Stp.up ?_ | refine fun (K : AK) hK => ?_ | refine adrawG_k (by decide) ?_ | refine adrawG_e (by decide) ?_ | refine adrawM_k (by decide) ?_ | (refine hK _ ?_; clear hK K)) | simp only [go_sem, eG, eL] | with_reducible refine wA ?_ | clear hK K)
  refine ACallS.frz N2 40 rfl (by simp only [go_sem, Nat.reduceLT, Nat.reduceLeDiff, Nat.reduceEqDiff, Nat.lt_add_one, Nat.zero_lt_one, and_self]) rfl ?_
  repeat (first | (with_reducible first | refine Stp.up ?_ | refine fun (K : AK) hK => ?_ | refine adrawG_k (by decide) ?_ | refine adrawG_e (by decide) ?_ | refine adrawM_k (by decide) ?_ | (refine hK _ ?_; clear hK K)) | simp only [go_sem, eG, eL] | with_reducible refine wA ?_ | clear hK K)
  refine ACallS.one HX ?_
  repeat (first | (with_reducible first | refine Stp.up ?_ | refine fun (K : AK) hK => ?_ | refine adrawG_k (by decide) ?_ | refine adrawG_e (by decide) ?_ | refine adrawM_k (by decide) ?_ | (refine hK _ ?_; clear hK K)) | simp only [go_sem, eG, eL, eGS, List.set_set, List.length_set] | with_reducible refine wA ?_ | clear hK K)
  refine AIf.part (fun h2 => ?_) (fun h2 => ?_)
  ·have hno : noB p.name = true := by rw [← h2]; exact toList_no p.name
   rw [hno] at eS
   simp only [if_true] at eS
   repeat (first | (with_reducible first | refine Stp.up ?_ | refine fun (K : AK) hK => ?_ | refine adrawG_k (by decide) ?_ | refine adrawG_e (by decide) ?_ | refine adrawM_k (by decide) ?_ | (refine hK _ ?_; clear hK K)) | simp only [go_sem, h2, eS, eW] | with_reducible refine wA ?_ | clear hK K)
   exact LNext.mk (i + 1) (by omega) (by omega) (by (refine wk_mk ?_ ?_ ?_ <;> simp only [frm, List.foldl_cons, List.foldl_nil, List.replicate_succ, List.replicate_zero, WkT, WkO, AV.v.injEq, Value.int.injEq, Value.bool.injEq, Value.string.injEq, AV.vec.injEq, AV.ptr.injEq, true_or, or_true, false_or, or_false, AObj.mk.injEq, forall_eq_apply_imp_iff, forall_eq, forall_eq', go_sem]); exact patW_wf _ _ _ _ _ _)
  ·have hno : noB p.name = false := by rw [← h2]; exact toList_no p.name
   rw [hno] at eS
   simp only [Bool.false_eq_true, if_false] at eS
   repeat (first | (with_reducible first | refine Stp.up ?_ | refine fun (K : AK) hK => ?_ | refine adrawG_k (by decide) ?_ | refine adrawG_e (by decide) ?_ | refine adrawM_k (by decide) ?_ | (refine hK _ ?_; clear hK K)) | simp only [go_sem, h2] | with_reducible refine wA ?_ | clear hK K)
   refine awp_drawG [9] [] (by decide +kernel) (by kernel_rfl) ?_
   repeat (first | (with_reducible first | refine Stp.up ?_ | refine fun (K : AK) hK => ?_ | refine adrawG_k (by decide) ?_ | refine adrawG_e (by decide) ?_ | refine adrawM_k (by decide) ?_ | (refine hK _ ?_; clear hK K)) | simp only [go_sem, eGS, eL, List.length_set] | with_reducible refine wA ?_ | clear hK K)
   refine ACallS.frz N3 8 rfl (by simp only [go_sem, Nat.reduceLT, Nat.reduceLeDiff, Nat.reduceEqDiff, Nat.lt_add_one, Nat.zero_lt_one, and_self]) rfl ?_
   repeat (first | (with_reducible first | refine Stp.up ?_ | refine fun (K : AK) hK => ?_ | refine adrawG_k (by decide) ?_ | refine adrawG_e (by decide) ?_ | refine adrawM_k (by decide) ?_ | (refine hK _ ?_; clear hK K)) | simp only [go_sem, eGS, eL, eS, eW, List.set_set, List.length_set] | with_reducible refine wA ?_ | clear hK K)
   exact LNext.mk (i + 1) (by omega) (by omega) (by (refine wk_mk ?_ ?_ ?_ <;> simp only [frm, List.foldl_cons, List.foldl_nil, List.replicate_succ, List.replicate_zero, WkT, WkO, AV.v.injEq, Value.int.injEq, Value.bool.injEq, Value.string.injEq, AV.vec.injEq, AV.ptr.injEq, true_or, or_true, false_or, or_false, AObj.mk.injEq, forall_eq_apply_imp_iff, forall_eq, forall_eq', go_sem]); exact patW_wf _ _ _ _ _ _)
 have hi' : i = ps.length := by (try simp only [bne_iff_ne, ne_eq, bne_eq_false_iff_eq, beq_iff_eq, beq_eq_false_iff_ne, decide_eq_true_eq, decide_eq_false_iff_not, Bool.not_eq_eq_eq_not, Int.natCast_inj, Int.ofNat_lt, Int.ofNat_le] at h); omega
 simp only [hi', patW_all]
 repeat (first | (with_reducible first | refine Stp.up ?_ | refine fun (K : AK) hK => ?_ | refine adrawG_k (by decide) ?_ | refine adrawG_e (by decide) ?_ | refine adrawM_k (by decide) ?_ | (refine hK _ ?_; clear hK K)) | simp only [go_sem, h] | with_reducible refine wA ?_ | clear hK K)
 refine awp_loopO (ι := Nat) 110 (fun i => [(110, .v (.int .i64 i)), (12, .undef), (13, .undef)]) (fun i => [some ⟨26, 5, false, [[.slc 8 (ps.map (encPw A)) ps.length, .slc 13 (cs.map encC) cs.length, .slc 6 (rs.map encO) rs.length, .wit (evA A) (.v (.int .i64 ra)), .v (.int .i64 sl)]]⟩,
  some ⟨27, 1, false, [[.slc 1 (a.map encS) a.length]]⟩, some ⟨27, 1, false, [[.slc 1 (b.map encS) b.length]]⟩, some ⟨26, 5, false, [[.vec 5 ps.length, .vec 6 cs.length, .v (.slice none 0 0), .v (.int .i64 ra), .v (.int .i64 sl)]]⟩,
  some ⟨58, 1, false, [[.fn 27 [] [.ptr 1 0 1 0 0, .ptr 2 0 1 0 0]]]⟩, some ⟨45, 8, true, (ps.map (mapP (renN a b))).map (encPf A)⟩, some ⟨71, 13, true, cndR a b cs i⟩]) (fun i => cs.length - i) (fun i => i ≤ cs.length) 0 (by omega) ?_ ?_
 ·(refine wk_mk ?_ ?_ ?_ <;> simp only [frm, List.foldl_cons, List.foldl_nil, List.replicate_succ, List.replicate_zero, WkT, WkO, AV.v.injEq, Value.int.injEq, Value.bool.injEq, Value.string.injEq, AV.vec.injEq, AV.ptr.injEq, true_or, or_true, false_or, or_false, AObj.mk.injEq, forall_eq_apply_imp_iff, forall_eq, forall_eq', go_sem])
  all_goals first | rfl | (refine ⟨(mixL_0 _ _ _).symm, ?_⟩; exact cndR_wf _ _ _ _ _) | skip
 clear h hi' hi i
 rintro i hi K hK
 repeat (first | (with_reducible first | refine Stp.up ?_ | refine fun (K : AK) hK => ?_ | refine adrawG_k (by decide) ?_ | refine adrawG_e (by decide) ?_ | refine adrawM_k (by decide) ?_ | (refine hK _ ?_; clear hK K)) | simp only [go_sem] | with_reducible refine wA ?_ | clear hK K)
 refine AIf.part (fun h => ?_) (fun h => ?_)
 ·have hlt : i < cs.length := by (try simp only [bne_iff_ne, ne_eq, bne_eq_false_iff_eq, beq_iff_eq, beq_eq_false_iff_ne, decide_eq_true_eq, decide_eq_false_iff_not, Bool.not_eq_eq_eq_not, Int.natCast_inj, Int.ofNat_lt, Int.ofNat_le] at h); omega
  have eW := wrap_succ (k := i) (by omega)
  have eL : (cndR a b cs i).length = cs.length := mixL_len _ _ _ _
  have eG : (cndR a b cs i).getD i [] = encC cs[i] := mixL_get _ _ _ _ hlt _
  have eS : (cndR a b cs i).set i (encC (mapC (renN a b) cs[i])) = cndR a b cs (i + 1) := mixL_set _ _ _ _ hlt
  have N1 := operandT_c a b cs[i].left hl
  have N2 := operandT_c a b cs[i].right hl
  have eGS : ∀ X, ((cndR a b cs i).set i X).getD i [] = X := fun X => getD_set_self (by rw [eL]; exact hlt) X []
  generalize cndR a b cs i = r at eL eG eS eGS ⊢
  generalize cs[i] = c at N1 N2 eG eS
  simp only [renO] at N1 N2
  simp only [encC, mapC] at eG eS
  simp only [encO, strsA, renV] at N1 N2
  repeat (first | (with_reducible first | refine Stp.up ?_ | refine fun (K : AK) hK => ?_ | refine adrawG_k (by decide) ?_ | refine adrawG_e (by decide) ?_ | refine adrawM_k (by decide) ?_ | (refine hK _ ?_; clear hK K)) | simp only [go_sem, h] | with_reducible refine wA ?_ | clear hK K)
  refine awp_drawG [16, 19] [] (by decide +kernel) (by kernel_rfl) ?_
  repeat (first | (with_reducible first | refine Stp.up ?_ | refine fun (K : AK) hK => ?_ | refine adrawG_k (by decide) ?_ | refine adrawG_e (by decide) ?_ | refine adrawM_k (by decide) ?_ | (refine hK _ ?_; clear hK K)) | simp only [go_sem, eG, eL] | with_reducible refine wA ?_ | clear hK K)
  refine ACallS.frz N1 40 rfl (by simp only [go_sem, Nat.reduceLT, Nat.reduceLeDiff, Nat.reduceEqDiff, Nat.lt_add_one, Nat.zero_lt_one, and_self]) rfl ?_
  repeat (first | (with_reducible first | refine Stp.up ?_ | refine fun (K : AK) hK => ?_ | refine adrawG_k (by decide) ?_ | refine adrawG_e (by decide) ?_ | refine adrawM_k (by decide) ?_ | (refine hK _ ?_; clear hK K)) | simp only [go_sem, eG, eL] | with_reducible refine wA ?_ | clear hK K)
  refine ACallS.frz N2 40 rfl (by simp only [go_sem, Nat.reduceLT, Nat.reduceLeDiff, Nat.reduceEqDiff, Nat.lt_add_one, Nat.zero_lt_one, and_self]) rfl ?_
  repeat (first | (with_reducible first | refine Stp.up ?_ | refine fun (K : AK) hK => ?_ | refine adrawG_k (by decide) ?_ | refine adrawG_e (by decide) ?_ | refine adrawM_k (by decide) ?_ | (refine hK _ ?_; clear hK K)) | simp only [go_sem, eG, eL, eGS, eS, eW, List.set_set, List.length_set] | with_reducible refine wA ?_ | clear hK K)
  exact LNext.mk (i + 1) (by omega) (by omega) (by (refine wk_mk ?_ ?_ ?_ <;> simp only [frm, List.foldl_cons, List.foldl_nil, List.replicate_succ, List.replicate_zero, WkT, WkO, AV.v.injEq, Value.int.injEq, Value.bool.injEq, Value.string.injEq, AV.vec.injEq, AV.ptr.injEq, true_or, or_true, false_or, or_false, AObj.mk.injEq, forall_eq_apply_imp_iff, forall_eq, forall_eq', go_sem]); exact cndR_wf _ _ _ _ _)
 have hi' : i = cs.length := by (try simp only [bne_iff_ne, ne_eq, bne_eq_false_iff_eq, beq_iff_eq, beq_eq_false_iff_ne, decide_eq_true_eq, decide_eq_false_iff_not, Bool.not_eq_eq_eq_not, Int.natCast_inj, Int.ofNat_lt, Int.ofNat_le] at h); omega
 simp only [hi', cndR_all]
 repeat ((fail_if_success (with_reducible refine stopR (i := 22) ?_)); first | (with_reducible first | refine Stp.up ?_ | refine fun (K : AK) hK => ?_ | refine adrawG_k (by decide) ?_ | refine adrawG_e (by decide) ?_ | refine adrawM_k (by decide) ?_ | (refine hK _ ?_; clear hK K)) | simp only [go_sem, h] | with_reducible refine wA ?_ | clear hK K)
 refine awp_turn (turn_cell (k := 3) (i := 0) (j := 2) 64 6 (by decide) rfl (Nat.zero_lt_succ _) rfl rfl) (by kernel_rfl) ?_
 simp only [List.length_cons, List.length_nil, Nat.reduceAdd, List.cons_append, List.nil_append, List.set_cons_zero, List.set_cons_succ]
 repeat (first | (with_reducible first | refine Stp.up ?_ | refine fun (K : AK) hK => ?_ | refine adrawG_k (by decide) ?_ | refine adrawG_e (by decide) ?_ | refine adrawM_k (by decide) ?_ | (refine hK _ ?_; clear hK K)) | simp only [go_sem] | with_reducible refine wA ?_ | clear hK K)
 refine awp_loopO (ι := Nat) 139 (fun i => [(139, .v (.int .i64 i)), (14, .undef), (15, .undef)]) (fun i => [some ⟨26, 5, false, [[.slc 8 (ps.map (encPw A)) ps.length, .slc 13 (cs.map encC) cs.length, .slc 6 (rs.map encO) rs.length, .wit (evA A) (.v (.int .i64 ra)), .v (.int .i64 sl)]]⟩,
  some ⟨27, 1, false, [[.slc 1 (a.map encS) a.length]]⟩, some ⟨27, 1, false, [[.slc 1 (b.map encS) b.length]]⟩, some ⟨26, 5, false, [[.vec 5 ps.length, .vec 6 cs.length, .vec 7 i, .v (.int .i64 ra), .v (.int .i64 sl)]]⟩,
  some ⟨58, 1, false, [[.fn 27 [] [.ptr 1 0 1 0 0, .ptr 2 0 1 0 0]]]⟩, some ⟨45, 8, true, (ps.map (mapP (renN a b))).map (encPf A)⟩, some ⟨71, 13, true, (cs.map (mapC (renN a b))).map encC⟩, some ⟨64, 6, true, ((rs.map (mapO (renN a b))).take i).map encO⟩]) (fun i => rs.length - i) (fun i => i ≤ rs.length) 0 (by omega) ?_ ?_
 ·(refine wk_mk ?_ ?_ ?_ <;> simp only [frm, List.foldl_cons, List.foldl_nil, List.replicate_succ, List.replicate_zero, WkT, WkO, AV.v.injEq, Value.int.injEq, Value.bool.injEq, Value.string.injEq, AV.vec.injEq, AV.ptr.injEq, true_or, or_true, false_or, or_false, AObj.mk.injEq, forall_eq_apply_imp_iff, forall_eq, forall_eq', go_sem])
  all_goals rfl
 clear h hi' hi i
 rintro i hi K hK
 repeat (first | (with_reducible first | refine Stp.up ?_ | refine fun (K : AK) hK => ?_ | refine adrawG_k (by decide) ?_ | refine adrawG_e (by decide) ?_ | refine adrawM_k (by decide) ?_ | (refine hK _ ?_; clear hK K)) | simp only [go_sem] | with_reducible refine wA ?_ | clear hK K)
 refine AIf.part (fun h => ?_) (fun h => ?_)
 ·have hlt : i < rs.length := by (try simp only [bne_iff_ne, ne_eq, bne_eq_false_iff_eq, beq_iff_eq, beq_eq_false_iff_ne, decide_eq_true_eq, decide_eq_false_iff_not, Bool.not_eq_eq_eq_not, Int.natCast_inj, Int.ofNat_lt, Int.ofNat_le] at h); omega
  have eW := wrap_succ (k := i) (by omega)
  have eG := getD_map encO rs i [] hlt
  have N1 := operandT_c a b rs[i] hl
  have eL : ((rs.map (mapO (renN a b))).take i).length = i := by simp; omega
  have eT : ((rs.map (mapO (renN a b))).take (i + 1)).map encO = ((rs.map (mapO (renN a b))).take i).map encO ++ [encO (mapO (renN a b) rs[i])] := by
   rw [take_map_succ encO (rs.map (mapO (renN a b))) i (by simpa using hlt)]; simp
  simp only [renO] at N1
  simp only [encO, strsA, renV] at N1 eG eT
  repeat (first | (with_reducible first | refine Stp.up ?_ | refine fun (K : AK) hK => ?_ | refine adrawG_k (by decide) ?_ | refine adrawG_e (by decide) ?_ | refine adrawM_k (by decide) ?_ | (refine hK _ ?_; clear hK K)) | simp only [go_sem, h, eG] | with_reducible refine wA ?_ | clear hK K)
  refine awp_drawG [6, 8] [] (by decide +kernel) (by kernel_rfl) ?_
  repeat (first | (with_reducible first | refine Stp.up ?_ | refine fun (K : AK) hK => ?_ | refine adrawG_k (by decide) ?_ | refine adrawG_e (by decide) ?_ | refine adrawM_k (by decide) ?_ | (refine hK _ ?_; clear hK K)) | simp only [go_sem, eG, eL] | with_reducible refine wA ?_ | clear hK K)
  refine ACallS.frz N1 40 rfl (by simp only [go_sem, Nat.reduceLT, Nat.reduceLeDiff, Nat.reduceEqDiff, Nat.lt_add_one, Nat.zero_lt_one, and_self]) rfl ?_
  repeat (first | (with_reducible first | refine Stp.up ?_ | refine fun (K : AK) hK => ?_ | refine adrawG_k (by decide) ?_ | refine adrawG_e (by decide) ?_ | refine adrawM_k (by decide) ?_ | (refine hK _ ?_; clear hK K)) | simp only [go_sem, eL, eW] | with_reducible refine wA ?_ | clear hK K)
  exact LNext.mk (i + 1) (by omega) (by omega) (by (refine wk_mk ?_ ?_ ?_ <;> simp only [frm, List.foldl_cons, List.foldl_nil, List.replicate_succ, List.replicate_zero, WkT, WkO, AV.v.injEq, Value.int.injEq, Value.bool.injEq, Value.string.injEq, AV.vec.injEq, AV.ptr.injEq, true_or, or_true, false_or, or_false, AObj.mk.injEq, forall_eq_apply_imp_iff, forall_eq, forall_eq', go_sem]); exact eT.symm)
 have hi' : i = rs.length := by (try simp only [bne_iff_ne, ne_eq, bne_eq_false_iff_eq, beq_iff_eq, beq_eq_false_iff_ne, decide_eq_true_eq, decide_eq_false_iff_not, Bool.not_eq_eq_eq_not, Int.natCast_inj, Int.ofNat_lt, Int.ofNat_le] at h); omega
 have eA : (rs.map (mapO (renN a b))).take rs.length = rs.map (mapO (renN a b)) := take_all (by simp)
 simp only [hi', eA]
 repeat (first | (with_reducible first | refine Stp.up ?_ | refine fun (K : AK) hK => ?_ | refine adrawG_k (by decide) ?_ | refine adrawG_e (by decide) ?_ | refine adrawM_k (by decide) ?_ | (refine hK _ ?_; clear hK K)) | simp only [go_sem, h] | with_reducible refine wA ?_ | clear hK K)
 have F := frz_query (o := [some ⟨26, 5, false, [[.slc 8 (ps.map (encPw A)) ps.length, .slc 13 (cs.map encC) cs.length, .slc 6 (rs.map encO) rs.length, .wit (evA A) (.v (.int .i64 ra)), .v (.int .i64 sl)]]⟩,
  some ⟨27, 1, false, [[.slc 1 (a.map encS) a.length]]⟩, some ⟨27, 1, false, [[.slc 1 (b.map encS) b.length]]⟩, some ⟨26, 5, false, [[.vec 5 ps.length, .vec 6 cs.length, .vec 7 rs.length, .v (.int .i64 ra), .v (.int .i64 sl)]]⟩,
  some ⟨58, 1, false, [[.fn 27 [] [.ptr 1 0 1 0 0, .ptr 2 0 1 0 0]]]⟩, some ⟨45, 8, true, (ps.map (mapP (renN a b))).map (encPf A)⟩, some ⟨71, 13, true, (cs.map (mapC (renN a b))).map encC⟩, some ⟨64, 6, true, (rs.map (mapO (renN a b))).map encO⟩])
  (A := A) 0 5 6 7 (by decide) rfl rfl (mapQ (renN a b) ⟨ps, cs, rs, ra, sl⟩) (by simpa [mapQ] using hq1) (by simpa [mapQ] using hq2) (by simpa [mapQ] using hq3) rfl rfl rfl
 simp only [mapQ, List.length_map] at F ⊢
 exact F
end Go.Proofs.Ytldnlbcibmmbbaa
