/- The document's queries (ref11): with, Vertices, Edges: the walks. -/
import Derived.Test.YtldnlbcibmmbbaaRAbsZ
import Derived.Test.YtldnlbcibmmbbaaRTy
import Derived.Test.YtldnlbcibmmbbaaREnc
import Derived.Test.YtldnlbcibmmbbaaRVerts
import Derived.Test.YtldnlbcibmmbbaaRLent
import Derived.Test.YtldnlbcibmmbbaaRRef07b
import Derived.Test.YtldnlbcibmmbbaaRRef11
set_option linter.unusedSimpArgs false
set_option linter.unusedVariables false
namespace Go.Proofs.Ytldnlbcibmmbbaa
open Go.RowKit

end Go.Proofs.Ytldnlbcibmmbbaa

namespace Go.Proofs.Ytldnlbcibmmbbaa
open Go.RowKit

end Go.Proofs.Ytldnlbcibmmbbaa

namespace Go.Proofs.Ytldnlbcibmmbbaa
open Go.RowKit

theorem all2_take_succ {α β : Type} (f : α → β → Bool) : ∀ (xs : List α) (ys : List β) (i : Nat) (h : i < xs.length) (h' : i < ys.length), all2 f (xs.take (i + 1)) (ys.take (i + 1)) = (all2 f (xs.take i) (ys.take i) && f xs[i] ys[i])
 | x :: xs, y :: ys, 0, _, _ => by simp [all2]
 | x :: xs, y :: ys, i + 1, h, h' => by
  have := all2_take_succ f xs ys i (by simpa using h) (by simpa using h')
  simp only [List.take_succ_cons, all2, List.getElem_cons_succ] at this ⊢
  rw [this, Bool.and_assoc]
 | [], _, _, h, _ => absurd h (by simp)
 | _ :: _, [], _, _, h => absurd h (by simp)
theorem ex_kids {x : Ex} {n : Nat} (h : x.lens n) : x.kids.length ≤ n := h x (by obtain ⟨k, s, l⟩ := x; rw [exParts]; exact List.mem_cons_self)

set_option maxRecDepth 100000 in
set_option maxHeartbeats 8000000 in
theorem same11_c (x y : Qry) (hx : x.lens 1000000) : Call1 Try.prog 10 [.agg (encQ x), .agg (encQ y)] (.v (.bool (qrySame x y))) := by
 obtain ⟨l1, l2, l3, l4⟩ := hx
 obtain ⟨ps, cs, rs, ra, sl⟩ := x
 obtain ⟨ps', cs', rs', ra', sl'⟩ := y
 simp only at l1 l2 l3 l4
 simp only [encQ]
 (refine Call1.enter Try.func10 rfl (by kernel_rfl) (by kernel_rfl) rfl (by first | rfl | (simp only [go_sem, Bool.and_self, Bool.and_true, Bool.true_and])) (by first | rfl | (simp only [go_sem, Bool.and_self, Bool.and_true, Bool.true_and])) ?_; simp only [Try.ntmps10, Try.results10, List.length_cons, List.length_nil, Nat.reduceAdd, Nat.reduceSub, List.replicate_succ, List.replicate_zero, List.cons_append, List.nil_append])
 repeat' (first | (with_reducible first | refine Stp.up ?_ | refine fun (K : AK) hK => ?_ | refine wD ?_ | refine awp_boxes (by kernel_rfl) (by kernel_rfl) (by kernel_rfl) ?_ | refine abox_plain (by decide) ?_ | refine abox_al ?_ | refine abox_st ?_ | (refine hK _ ?_; clear hK K)) | simp only [go_sem, Go.undef] | with_reducible refine wA ?_ | clear hK K | (with_reducible refine ACallV.one (by assumption) ?_) | (with_reducible refine ACallS.one (by assumption) ?_) | (refine AIf.part (fun hb => ?_) (fun hb => ?_) <;> simp only [hb, go_sem, Go.undef]) | (refine AIf.part (fun hb => ?_) (fun hb => ?_)) | (with_reducible refine ABoth.mk ?_ ?_))
 any_goals (refine congrArg Value.bool ?_; simp only [bne_iff_ne, ne_eq, bne_eq_false_iff_eq, Int.natCast_inj] at *; (first | rw [qrySame, all2_len (f := patSame) (by assumption)] | rw [qrySame, all2_len (f := Cnd.eqb) (by assumption)] | rw [qrySame, all2_len (f := Opd.eqb) (by assumption)] | skip); simp_all [qrySame]; done)
 rename_i n1 n2 n3 n4
 have n5 := hb
 have m1 : ps.length = ps'.length := by simp only [bne_eq_false_iff_eq, Int.natCast_inj] at n1; exact n1
 have m2 : cs.length = cs'.length := by simp only [bne_eq_false_iff_eq, Int.natCast_inj] at n2; exact n2
 have m3 : rs.length = rs'.length := by simp only [bne_eq_false_iff_eq, Int.natCast_inj] at n3; exact n3
 have m4 : (ra == ra') = true := by simpa using n4
 have m5 : (sl == sl') = true := by simpa using n5
 clear n1 n2 n3 n4 n5 hb
 refine awp_loopK (ι := Nat) 10 (fun i => [(5, .v (.int .i64 i)), (6, .undef), (7, .undef)]) (fun i => ps.length - i) (fun i => i ≤ ps.length ∧ all2 patSame (ps.take i) (ps'.take i) = true) 0 ⟨by omega, rfl⟩ ?_ ?_
 ·(refine wk_mk ?_ ?_ ?_ <;> simp only [frm, List.foldl_cons, List.foldl_nil, List.replicate_succ, List.replicate_zero, WkT, WkO, AV.v.injEq, Value.int.injEq, Value.bool.injEq, Value.string.injEq, AV.vec.injEq, AV.ptr.injEq, true_or, or_true, false_or, or_false, AObj.mk.injEq, forall_eq_apply_imp_iff, forall_eq, forall_eq', go_sem])
  rfl
 ·rintro i ⟨hi, hP⟩ K hK
  repeat (first | (with_reducible first | refine Stp.up ?_ | refine fun (K : AK) hK => ?_ | refine wD ?_ | refine awp_boxes (by kernel_rfl) (by kernel_rfl) (by kernel_rfl) ?_ | refine abox_plain (by decide) ?_ | refine abox_al ?_ | refine abox_st ?_ | (refine hK _ ?_; clear hK K)) | simp only [go_sem] | with_reducible refine wA ?_ | clear hK K)
  refine AIf.part (fun h => ?_) (fun h => ?_)
  ·have hlt : i < ps.length := by (try simp only [bne_iff_ne, ne_eq, bne_eq_false_iff_eq, beq_iff_eq, beq_eq_false_iff_ne, decide_eq_true_eq, decide_eq_false_iff_not, Bool.not_eq_eq_eq_not, Int.natCast_inj, Int.ofNat_lt, Int.ofNat_le] at h); omega
   have hlt' : i < ps'.length := by omega
   have eW := wrap_succ (k := i) (by omega)
   have eG := getD_map encP ps i [] hlt
   have eH := getD_map encP ps' i [] hlt'
   have hm := List.getElem_mem hlt
   have C := same07_c ps[i].expr ps'[i].expr (ex_kids (l4 _ hm)) (l4 _ hm)
   have eS := all2_take_succ patSame ps ps' i hlt hlt'
   simp only [encP, encE_eq] at C eG eH
   repeat' (first | (with_reducible first | refine Stp.up ?_ | refine fun (K : AK) hK => ?_ | refine wD ?_ | refine awp_boxes (by kernel_rfl) (by kernel_rfl) (by kernel_rfl) ?_ | refine abox_plain (by decide) ?_ | refine abox_al ?_ | refine abox_st ?_ | (refine hK _ ?_; clear hK K)) | simp only [go_sem, eG, eH, eW, Go.undef] | with_reducible refine wA ?_ | clear hK K | (with_reducible refine ACallV.one (by assumption) ?_) | (with_reducible refine ACallS.one (by assumption) ?_) | (refine AIf.part (fun hb => ?_) (fun hb => ?_) <;> simp only [hb, go_sem, eG, eH, eW, Go.undef]) | (refine AIf.part (fun hb => ?_) (fun hb => ?_)) | (with_reducible refine ABoth.mk ?_ ?_))
   all_goals first
    | exact LNext.mk (i + 1) ⟨by omega, by rw [eS, hP]; simp_all [patSame]⟩ (by omega) (by (refine wk_mk ?_ ?_ ?_ <;> simp only [frm, List.foldl_cons, List.foldl_nil, List.replicate_succ, List.replicate_zero, WkT, WkO, AV.v.injEq, Value.int.injEq, Value.bool.injEq, Value.string.injEq, AV.vec.injEq, AV.ptr.injEq, true_or, or_true, false_or, or_false, AObj.mk.injEq, forall_eq_apply_imp_iff, forall_eq, forall_eq', go_sem]))
    | (refine congrArg Value.bool ?_; have e2 : patSame ps[i] ps'[i] = false := (by simp_all [patSame]); rw [qrySame, all2_at hlt hlt' e2]; simp; done)
  ·have e1 : all2 patSame ps ps' = true := by rw [← hP, show i = ps.length by (try simp only [bne_iff_ne, ne_eq, bne_eq_false_iff_eq, beq_iff_eq, beq_eq_false_iff_ne, decide_eq_true_eq, decide_eq_false_iff_not, Bool.not_eq_eq_eq_not, Int.natCast_inj, Int.ofNat_lt, Int.ofNat_le] at h); omega, List.take_length, m1, List.take_length]
   repeat (first | (with_reducible first | refine Stp.up ?_ | refine fun (K : AK) hK => ?_ | refine wD ?_ | refine awp_boxes (by kernel_rfl) (by kernel_rfl) (by kernel_rfl) ?_ | refine abox_plain (by decide) ?_ | refine abox_al ?_ | refine abox_st ?_ | (refine hK _ ?_; clear hK K)) | simp only [go_sem] | with_reducible refine wA ?_ | clear hK K)
   clear hP h hi
   refine awp_loopK (ι := Nat) 10 (fun i => [(8, .v (.int .i64 i)), (6, .undef), (7, .undef)]) (fun i => cs.length - i) (fun i => i ≤ cs.length ∧ all2 Cnd.eqb (cs.take i) (cs'.take i) = true) 0 ⟨by omega, rfl⟩ ?_ ?_
   ·(refine wk_mk ?_ ?_ ?_ <;> simp only [frm, List.foldl_cons, List.foldl_nil, List.replicate_succ, List.replicate_zero, WkT, WkO, AV.v.injEq, Value.int.injEq, Value.bool.injEq, Value.string.injEq, AV.vec.injEq, AV.ptr.injEq, true_or, or_true, false_or, or_false, AObj.mk.injEq, forall_eq_apply_imp_iff, forall_eq, forall_eq', go_sem])
    rfl
   ·rintro i ⟨hi, hP⟩ K hK
    repeat (first | (with_reducible first | refine Stp.up ?_ | refine fun (K : AK) hK => ?_ | refine wD ?_ | refine awp_boxes (by kernel_rfl) (by kernel_rfl) (by kernel_rfl) ?_ | refine abox_plain (by decide) ?_ | refine abox_al ?_ | refine abox_st ?_ | (refine hK _ ?_; clear hK K)) | simp only [go_sem] | with_reducible refine wA ?_ | clear hK K)
    refine AIf.part (fun h => ?_) (fun h => ?_)
    ·have hlt : i < cs.length := by (try simp only [bne_iff_ne, ne_eq, bne_eq_false_iff_eq, beq_iff_eq, beq_eq_false_iff_ne, decide_eq_true_eq, decide_eq_false_iff_not, Bool.not_eq_eq_eq_not, Int.natCast_inj, Int.ofNat_lt, Int.ofNat_le] at h); omega
     have hlt' : i < cs'.length := by omega
     have eW := wrap_succ (k := i) (by omega)
     have eG := getD_map encC cs i [] hlt
     have eH := getD_map encC cs' i [] hlt'
     have eS := all2_take_succ Cnd.eqb cs cs' i hlt hlt'
     simp only [encC] at eG eH
     repeat' (first | (with_reducible first | refine Stp.up ?_ | refine fun (K : AK) hK => ?_ | refine wD ?_ | refine awp_boxes (by kernel_rfl) (by kernel_rfl) (by kernel_rfl) ?_ | refine abox_plain (by decide) ?_ | refine abox_al ?_ | refine abox_st ?_ | (refine hK _ ?_; clear hK K)) | simp only [go_sem, eG, eH, eW, Go.undef] | with_reducible refine wA ?_ | clear hK K | (with_reducible refine ACallV.one (by assumption) ?_) | (with_reducible refine ACallS.one (by assumption) ?_) | (refine AIf.part (fun hb => ?_) (fun hb => ?_) <;> simp only [hb, go_sem, eG, eH, eW, Go.undef]) | (refine AIf.part (fun hb => ?_) (fun hb => ?_)) | (with_reducible refine ABoth.mk ?_ ?_))
     ·exact LNext.mk (i + 1) ⟨by omega, by rw [eS, hP]; simpa [Cnd.eqb, Opd.eqb, Val.eqb, and_assoc] using hb⟩ (by omega) (by (refine wk_mk ?_ ?_ ?_ <;> simp only [frm, List.foldl_cons, List.foldl_nil, List.replicate_succ, List.replicate_zero, WkT, WkO, AV.v.injEq, Value.int.injEq, Value.bool.injEq, Value.string.injEq, AV.vec.injEq, AV.ptr.injEq, true_or, or_true, false_or, or_false, AObj.mk.injEq, forall_eq_apply_imp_iff, forall_eq, forall_eq', go_sem]))
     ·refine congrArg Value.bool ?_
      have e2 : cs[i].eqb cs'[i] = false := by rw [← hb]; simp only [Cnd.eqb, Opd.eqb, Val.eqb, Bool.and_assoc]
      rw [qrySame, all2_at hlt hlt' e2]; simp
    ·have e2 : all2 Cnd.eqb cs cs' = true := by rw [← hP, show i = cs.length by (try simp only [bne_iff_ne, ne_eq, bne_eq_false_iff_eq, beq_iff_eq, beq_eq_false_iff_ne, decide_eq_true_eq, decide_eq_false_iff_not, Bool.not_eq_eq_eq_not, Int.natCast_inj, Int.ofNat_lt, Int.ofNat_le] at h); omega, List.take_length, m2, List.take_length]
     repeat (first | (with_reducible first | refine Stp.up ?_ | refine fun (K : AK) hK => ?_ | refine wD ?_ | refine awp_boxes (by kernel_rfl) (by kernel_rfl) (by kernel_rfl) ?_ | refine abox_plain (by decide) ?_ | refine abox_al ?_ | refine abox_st ?_ | (refine hK _ ?_; clear hK K)) | simp only [go_sem] | with_reducible refine wA ?_ | clear hK K)
     clear hP h hi
     refine awp_loopK (ι := Nat) 10 (fun i => [(9, .v (.int .i64 i)), (6, .undef), (7, .undef)]) (fun i => rs.length - i) (fun i => i ≤ rs.length ∧ all2 Opd.eqb (rs.take i) (rs'.take i) = true) 0 ⟨by omega, rfl⟩ ?_ ?_
     ·(refine wk_mk ?_ ?_ ?_ <;> simp only [frm, List.foldl_cons, List.foldl_nil, List.replicate_succ, List.replicate_zero, WkT, WkO, AV.v.injEq, Value.int.injEq, Value.bool.injEq, Value.string.injEq, AV.vec.injEq, AV.ptr.injEq, true_or, or_true, false_or, or_false, AObj.mk.injEq, forall_eq_apply_imp_iff, forall_eq, forall_eq', go_sem])
      rfl
     ·rintro i ⟨hi, hP⟩ K hK
      repeat (first | (with_reducible first | refine Stp.up ?_ | refine fun (K : AK) hK => ?_ | refine wD ?_ | refine awp_boxes (by kernel_rfl) (by kernel_rfl) (by kernel_rfl) ?_ | refine abox_plain (by decide) ?_ | refine abox_al ?_ | refine abox_st ?_ | (refine hK _ ?_; clear hK K)) | simp only [go_sem] | with_reducible refine wA ?_ | clear hK K)
      refine AIf.part (fun h => ?_) (fun h => ?_)
      ·have hlt : i < rs.length := by (try simp only [bne_iff_ne, ne_eq, bne_eq_false_iff_eq, beq_iff_eq, beq_eq_false_iff_ne, decide_eq_true_eq, decide_eq_false_iff_not, Bool.not_eq_eq_eq_not, Int.natCast_inj, Int.ofNat_lt, Int.ofNat_le] at h); omega
       have hlt' : i < rs'.length := by omega
       have eW := wrap_succ (k := i) (by omega)
       have eG := getD_map encO rs i [] hlt
       have eH := getD_map encO rs' i [] hlt'
       have eS := all2_take_succ Opd.eqb rs rs' i hlt hlt'
       simp only [encO] at eG eH
       repeat' (first | (with_reducible first | refine Stp.up ?_ | refine fun (K : AK) hK => ?_ | refine wD ?_ | refine awp_boxes (by kernel_rfl) (by kernel_rfl) (by kernel_rfl) ?_ | refine abox_plain (by decide) ?_ | refine abox_al ?_ | refine abox_st ?_ | (refine hK _ ?_; clear hK K)) | simp only [go_sem, eG, eH, eW, Go.undef] | with_reducible refine wA ?_ | clear hK K | (with_reducible refine ACallV.one (by assumption) ?_) | (with_reducible refine ACallS.one (by assumption) ?_) | (refine AIf.part (fun hb => ?_) (fun hb => ?_) <;> simp only [hb, go_sem, eG, eH, eW, Go.undef]) | (refine AIf.part (fun hb => ?_) (fun hb => ?_)) | (with_reducible refine ABoth.mk ?_ ?_))
       ·exact LNext.mk (i + 1) ⟨by omega, by rw [eS, hP]; simpa [Opd.eqb, Val.eqb, and_assoc] using hb⟩ (by omega) (by (refine wk_mk ?_ ?_ ?_ <;> simp only [frm, List.foldl_cons, List.foldl_nil, List.replicate_succ, List.replicate_zero, WkT, WkO, AV.v.injEq, Value.int.injEq, Value.bool.injEq, Value.string.injEq, AV.vec.injEq, AV.ptr.injEq, true_or, or_true, false_or, or_false, AObj.mk.injEq, forall_eq_apply_imp_iff, forall_eq, forall_eq', go_sem]))
       ·refine congrArg Value.bool ?_
        have e2 : rs[i].eqb rs'[i] = false := by rw [← hb]; simp only [Opd.eqb, Val.eqb, Bool.and_assoc]
        rw [qrySame, all2_at hlt hlt' e2]; simp
      ·have e3 : all2 Opd.eqb rs rs' = true := by rw [← hP, show i = rs.length by (try simp only [bne_iff_ne, ne_eq, bne_eq_false_iff_eq, beq_iff_eq, beq_eq_false_iff_ne, decide_eq_true_eq, decide_eq_false_iff_not, Bool.not_eq_eq_eq_not, Int.natCast_inj, Int.ofNat_lt, Int.ofNat_le] at h); omega, List.take_length, m3, List.take_length]
       repeat (first | (with_reducible first | refine Stp.up ?_ | refine fun (K : AK) hK => ?_ | refine wD ?_ | refine awp_boxes (by kernel_rfl) (by kernel_rfl) (by kernel_rfl) ?_ | refine abox_plain (by decide) ?_ | refine abox_al ?_ | refine abox_st ?_ | (refine hK _ ?_; clear hK K)) | simp only [go_sem] | with_reducible refine wA ?_ | clear hK K)
       refine congrArg Value.bool ?_
       rw [qrySame, e1, e2, e3, m4, m5]; rfl
end Go.Proofs.Ytldnlbcibmmbbaa
