/- kinescoperef11.Rename: the walk. -/
import Derived.Test.YtldnlbcibmmbbaaRRef11d
import Derived.Test.YtldnlbcibmmbbaaRRen2
set_option linter.unusedSimpArgs false
set_option linter.unusedVariables false
namespace Go.Proofs.Ytldnlbcibmmbbaa
open Go.RowKit

theorem take_notin_succ {α : Type} {l : List α} {s : α} {i : Nat} (h : i < l.length) (h1 : s ∉ l.take i) (h2 : l[i] ≠ s) : s ∉ l.take (i + 1) := by
 rw [List.take_succ_eq_append_getElem h, List.mem_append, not_or]
 exact ⟨h1, by simpa using fun e => h2 e.symm⟩
theorem idxB_first {a : List ByteArray} {s : ByteArray} {i : Nat} (h : i < a.length) (h1 : s ∉ a.take i) (h2 : a[i] = s) : idxB a s = (i : Int) := by
 subst h2
 refine idxB_at h (by simp [seqb]) (fun j hj h' => ?_)
 rw [Bool.eq_false_iff]
 intro e
 have : a[i] = a[j] := bytesExt (by simpa [seqb] using e)
 exact h1 (by rw [this]; exact List.mem_take_iff_getElem.2 ⟨j, by omega, rfl⟩)
set_option maxRecDepth 100000 in
set_option maxHeartbeats 2000000 in
theorem name11_c (a b : List ByteArray) (s : ByteArray) (hl : b.length = a.length) (ha : a.length ≤ 1000000) :
  Call1 Try.prog 31 [.v (.string s), strsA a, strsA b] (.v (.string (renN a b s))) := by
 simp only [strsA]
 (refine Call1.enter Try.func31 rfl (by kernel_rfl) (by kernel_rfl) rfl (by first | rfl | (simp only [go_sem, Bool.and_self, Bool.and_true, Bool.true_and])) (by first | rfl | (simp only [go_sem, Bool.and_self, Bool.and_true, Bool.true_and])) ?_; simp only [Try.ntmps31, Try.results31, List.length_cons, List.length_nil, Nat.reduceAdd, Nat.reduceSub, List.replicate_succ, List.replicate_zero, List.cons_append, List.nil_append])
 repeat (first | (with_reducible first | refine Stp.up ?_ | refine fun (K : AK) hK => ?_ | (refine hK _ ?_; clear hK K)) | simp only [go_sem] | with_reducible refine wA ?_ | clear hK K)
 refine awp_loopK (ι := Nat) 8 (fun i => [(7, .v (.int .i64 i))]) (fun i => a.length - i) (fun i => i ≤ a.length ∧ s ∉ a.take i) 0 ⟨by omega, by simp⟩ ?_ ?_
 ·(refine wk_mk ?_ ?_ ?_ <;> simp only [frm, List.foldl_cons, List.foldl_nil, List.replicate_succ, List.replicate_zero, WkT, WkO, AV.v.injEq, Value.int.injEq, Value.bool.injEq, Value.string.injEq, AV.vec.injEq, AV.ptr.injEq, true_or, or_true, false_or, or_false, AObj.mk.injEq, forall_eq_apply_imp_iff, forall_eq, forall_eq', go_sem])
  all_goals rfl
 ·rintro i ⟨hi, hno⟩ K hK
  repeat (first | (with_reducible first | refine Stp.up ?_ | refine fun (K : AK) hK => ?_ | (refine hK _ ?_; clear hK K)) | simp only [go_sem] | with_reducible refine wA ?_ | clear hK K)
  refine AIf.part (fun h => ?_) (fun h => ?_)
  ·have hlt : i < a.length := by (try simp only [bne_iff_ne, ne_eq, bne_eq_false_iff_eq, beq_iff_eq, beq_eq_false_iff_ne, decide_eq_true_eq, decide_eq_false_iff_not, Bool.not_eq_eq_eq_not, Int.natCast_inj, Int.ofNat_lt, Int.ofNat_le] at h); omega
   have eW := wrap_succ (k := i) (by omega)
   have eG := getD_map encS a i [] hlt
   have eG2 := getD_map encS b i [] (by omega)
   simp only [encS] at eG eG2
   repeat (first | (with_reducible first | refine Stp.up ?_ | refine fun (K : AK) hK => ?_ | (refine hK _ ?_; clear hK K)) | simp only [go_sem, eG, eG2, eW] | with_reducible refine wA ?_ | clear hK K)
   refine AIf.part (fun h2 => ?_) (fun h2 => ?_)
   ·have hx : a[i] = s := bytesExt (by simpa using h2)
    have eR : renN a b s = b[i]'(by omega) := by
     rw [renN, idxB_first hlt hno hx, if_neg (by omega), Int.toNat_natCast]
     simp [List.getD, show i < b.length by omega]
    repeat (first | (with_reducible first | refine Stp.up ?_ | refine fun (K : AK) hK => ?_ | (refine hK _ ?_; clear hK K)) | simp only [go_sem, eG, eG2, eW] | with_reducible refine wA ?_ | clear hK K)
    rw [eR]
   ·have hx : a[i] ≠ s := fun e => absurd (congrArg ByteArray.toList e) (by simpa using h2)
    repeat (first | (with_reducible first | refine Stp.up ?_ | refine fun (K : AK) hK => ?_ | (refine hK _ ?_; clear hK K)) | simp only [go_sem, eG, eG2, eW] | with_reducible refine wA ?_ | clear hK K)
    exact LNext.mk (i + 1) ⟨by omega, take_notin_succ hlt hno hx⟩ (by omega) (by (refine wk_mk ?_ ?_ ?_ <;> simp only [frm, List.foldl_cons, List.foldl_nil, List.replicate_succ, List.replicate_zero, WkT, WkO, AV.v.injEq, Value.int.injEq, Value.bool.injEq, Value.string.injEq, AV.vec.injEq, AV.ptr.injEq, true_or, or_true, false_or, or_false, AObj.mk.injEq, forall_eq_apply_imp_iff, forall_eq, forall_eq', go_sem]))
  ·have e : a.take i = a := by rw [show i = a.length by (try simp only [bne_iff_ne, ne_eq, bne_eq_false_iff_eq, beq_iff_eq, beq_eq_false_iff_ne, decide_eq_true_eq, decide_eq_false_iff_not, Bool.not_eq_eq_eq_not, Int.natCast_inj, Int.ofNat_lt, Int.ofNat_le] at h); omega, List.take_length]
   rw [e] at hno
   repeat (first | (with_reducible first | refine Stp.up ?_ | refine fun (K : AK) hK => ?_ | (refine hK _ ?_; clear hK K)) | simp only [go_sem] | with_reducible refine wA ?_ | clear hK K)
   rw [renN_not hno]
set_option maxRecDepth 100000 in
theorem operandR_c (a b : List ByteArray) (x : Opd) (hl : b.length = a.length) (ha : a.length ≤ 1000000) :
  Call1 Try.prog 32 [.agg (encO x), strsA a, strsA b] (.agg (encO (renO a b x))) := by
 have C := name11_c a b x.name hl ha
 obtain ⟨kd, nm, ky, vl⟩ := x
 have e1 : kd = 1 ∨ kd = 2 → renO a b ⟨kd, nm, ky, vl⟩ = ⟨kd, renN a b nm, ky, vl⟩ := fun h => by simp [renO, mapO, h]
 have e2 : ¬ (kd = 1 ∨ kd = 2) → renO a b ⟨kd, nm, ky, vl⟩ = ⟨kd, nm, ky, vl⟩ := fun h => by simp only [renO, mapO]; rw [if_neg h]
 simp only [strsA, encO] at C ⊢
 generalize renO a b ⟨kd, nm, ky, vl⟩ = y at e1 e2 ⊢
 (refine Call1.enter Try.func32 rfl (by kernel_rfl) (by kernel_rfl) rfl (by first | rfl | (simp only [go_sem, Bool.and_self, Bool.and_true, Bool.true_and])) (by first | rfl | (simp only [go_sem, Bool.and_self, Bool.and_true, Bool.true_and])) ?_; simp only [Try.ntmps32, Try.results32, List.length_cons, List.length_nil, Nat.reduceAdd, Nat.reduceSub, List.replicate_succ, List.replicate_zero, List.cons_append, List.nil_append])
 repeat' (first | (with_reducible first | refine Stp.up ?_ | refine fun (K : AK) hK => ?_ | (refine hK _ ?_; clear hK K)) | simp only [go_sem] | clear hK K | (with_reducible refine ACallV.one (by assumption) ?_) | (with_reducible refine ACallS.one (by assumption) ?_) | (refine AIf.part (fun hb => ?_) (fun hb => ?_) <;> simp only [hb, go_sem]) | (refine AIf.part (fun hb => ?_) (fun hb => ?_)) | (with_reducible refine ABoth.mk ?_ ?_))
 ·rw [e1 (.inl (by simpa using hb))]; (refine AFz.of 40 rfl ?_; simp only [go_sem])
 ·rw [e1 (.inr (by simpa using hb))]; (refine AFz.of 40 rfl ?_; simp only [go_sem])
 ·rename_i hb1
  rw [e2 (by simp at hb hb1; simp [hb, hb1])]; (refine AFz.of 40 rfl ?_; simp only [go_sem])
def zQ : List AV := [.v (.slice none 0 0), .v (.slice none 0 0), .v (.slice none 0 0), .v (.int .i64 0), .v (.int .i64 0)]
set_option maxRecDepth 100000 in
set_option maxHeartbeats 2000000 in
theorem rename11_len (q : Qry) (a b : List ByteArray) (hl : b.length ≠ a.length) :
  Call1 Try.prog 9 [.agg (encQ q), strsA a, strsA b] (.tup [.agg zQ, .v (.int .i64 2)]) := by
 have hd : ((a.length : Int) != (b.length : Int)) = true := by simp; omega
 simp only [encQ, strsA, zQ]
 (refine Call1.enter Try.func9 rfl (by kernel_rfl) (by kernel_rfl) rfl (by first | rfl | (simp only [go_sem, Bool.and_self, Bool.and_true, Bool.true_and])) (by first | rfl | (simp only [go_sem, Bool.and_self, Bool.and_true, Bool.true_and])) ?_; simp only [Try.ntmps9, Try.results9, List.length_cons, List.length_nil, Nat.reduceAdd, Nat.reduceSub, List.replicate_succ, List.replicate_zero, List.cons_append, List.nil_append])
 repeat (first | (with_reducible first | refine Stp.up ?_ | refine fun (K : AK) hK => ?_ | (refine hK _ ?_; clear hK K)) | simp only [go_sem, hd] | clear hK K)
 (refine AFz.of 40 rfl ?_; simp only [go_sem])
theorem take_nodup_succ {α : Type} {l : List α} {i : Nat} (h : i < l.length) (h1 : (l.take i).Nodup) (h2 : l[i] ∉ l.take i) : (l.take (i + 1)).Nodup := by
 rw [List.take_succ_eq_append_getElem h]
 exact List.nodup_append.2 ⟨h1, by simp, fun x hx y hy e => h2 (by simp at hy; rw [← hy, ← e]; exact hx)⟩
set_option maxRecDepth 100000 in
set_option maxHeartbeats 8000000 in
theorem rename11_of (q : Qry) (a b : List ByteArray) (R : AV) (hq : q.lens 1000000) (hl : b.length = a.length) (ha : a.length ≤ 1000000) (hw : R.wf 0 = true) (h1 : a.Nodup → R = .tup [.agg (encQ (mapQ (renN a b) q)), .v (.int .i64 0)]) (h2 : ¬ a.Nodup → R = .tup [.agg zQ, .v (.int .i64 2)]) :
  Call1 Try.prog 9 [.agg (encQ q), strsA a, strsA b] R := by
 obtain ⟨hq1, hq2, hq3, hq4⟩ := hq
 obtain ⟨ps, cs, rs, ra, sl⟩ := q
 simp only at hq1 hq2 hq3 hq4
 have hd : ((a.length : Int) != (b.length : Int)) = false := by simp [hl]
 simp only [encQ, strsA]
 refine Call1.enter Try.func9 rfl (by kernel_rfl) (by kernel_rfl) rfl (by first | rfl | (simp only [go_sem, Bool.and_self, Bool.and_true, Bool.true_and])) hw ?_
 simp only [Try.ntmps9, Try.results9, List.length_cons, List.length_nil, Nat.reduceAdd, Nat.reduceSub, List.replicate_succ, List.replicate_zero, List.cons_append, List.nil_append]
 repeat (first | (with_reducible first | refine Stp.up ?_ | refine fun (K : AK) hK => ?_ | refine wD ?_ | refine adrawG_k (by decide) ?_ | refine adrawG_e (by decide) ?_ | (refine hK _ ?_; clear hK K)) | simp only [go_sem, hd] | with_reducible refine wA ?_ | clear hK K)
 refine awp_loopK (ι := Nat) 22 (fun i => [(8, .v (.int .i64 i)), (9, .undef)]) (fun i => a.length - i) (fun i => i ≤ a.length ∧ (a.take i).Nodup) 0 ⟨by omega, by simp⟩ ?_ ?_
 ·(refine wk_mk ?_ ?_ ?_ <;> simp only [frm, List.foldl_cons, List.foldl_nil, List.replicate_succ, List.replicate_zero, WkT, WkO, AV.v.injEq, Value.int.injEq, Value.bool.injEq, Value.string.injEq, AV.vec.injEq, AV.ptr.injEq, true_or, or_true, false_or, or_false, AObj.mk.injEq, forall_eq_apply_imp_iff, forall_eq, forall_eq', go_sem])
  all_goals rfl
 rintro i ⟨hi, hnd⟩ K hK
 repeat (first | (with_reducible first | refine Stp.up ?_ | refine fun (K : AK) hK => ?_ | refine wD ?_ | refine adrawG_k (by decide) ?_ | refine adrawG_e (by decide) ?_ | (refine hK _ ?_; clear hK K)) | simp only [go_sem] | with_reducible refine wA ?_ | clear hK K)
 refine AIf.part (fun h => ?_) (fun h => ?_)
 ·have hlt : i < a.length := by (try simp only [beq_iff_eq, beq_eq_false_iff_ne, decide_eq_true_eq, decide_eq_false_iff_not, Int.ofNat_lt] at h); omega
  have eW := wrap_succ (k := i) (by omega)
  have eG := getD_map encS a i [] hlt
  simp only [encS] at eG
  repeat (first | (with_reducible first | refine Stp.up ?_ | refine fun (K : AK) hK => ?_ | refine wD ?_ | refine adrawG_k (by decide) ?_ | refine adrawG_e (by decide) ?_ | (refine hK _ ?_; clear hK K)) | simp only [go_sem, h] | with_reducible refine wA ?_ | clear hK K)
  refine awp_loopK (ι := Nat) 28 (fun k => [(9, .v (.int .i64 k))]) (fun k => i - k) (fun k => k ≤ i ∧ a[i] ∉ a.take k) 0 ⟨by omega, by simp⟩ ?_ ?_
  ·(refine wk_mk ?_ ?_ ?_ <;> simp only [frm, List.foldl_cons, List.foldl_nil, List.replicate_succ, List.replicate_zero, WkT, WkO, AV.v.injEq, Value.int.injEq, Value.bool.injEq, Value.string.injEq, AV.vec.injEq, AV.ptr.injEq, true_or, or_true, false_or, or_false, AObj.mk.injEq, forall_eq_apply_imp_iff, forall_eq, forall_eq', go_sem])
   all_goals rfl
  ·rintro k ⟨hk, hno⟩ K hK
   repeat (first | (with_reducible first | refine Stp.up ?_ | refine fun (K : AK) hK => ?_ | refine wD ?_ | refine adrawG_k (by decide) ?_ | refine adrawG_e (by decide) ?_ | (refine hK _ ?_; clear hK K)) | simp only [go_sem] | with_reducible refine wA ?_ | clear hK K)
   refine AIf.part (fun h3 => ?_) (fun h3 => ?_)
   ·have hlk : k < i := by (try simp only [beq_iff_eq, beq_eq_false_iff_ne, decide_eq_true_eq, decide_eq_false_iff_not, Int.ofNat_lt] at h3); omega
    have eW2 := wrap_succ (k := k) (by omega)
    have eG2 := getD_map encS a k [] (by omega)
    simp only [encS] at eG2
    repeat (first | (with_reducible first | refine Stp.up ?_ | refine fun (K : AK) hK => ?_ | refine wD ?_ | refine adrawG_k (by decide) ?_ | refine adrawG_e (by decide) ?_ | (refine hK _ ?_; clear hK K)) | simp only [go_sem, eG, eG2, eW2, h3] | with_reducible refine wA ?_ | clear hK K)
    refine AIf.part (fun h4 => ?_) (fun h4 => ?_)
    ·have hx : a[i] = a[k]'(by omega) := bytesExt (by simpa using h4)
     have hR := h2 (fun hn => List.pairwise_iff_getElem.1 hn k i (by omega) hlt hlk hx.symm)
     repeat (first | (with_reducible first | refine Stp.up ?_ | refine fun (K : AK) hK => ?_ | refine wD ?_ | refine adrawG_k (by decide) ?_ | refine adrawG_e (by decide) ?_ | (refine hK _ ?_; clear hK K)) | simp only [go_sem, h4] | with_reducible refine wA ?_ | clear hK K)
     rw [hR]
     simp only [zQ]
     (refine AFz.of 40 rfl ?_; simp only [go_sem])
    ·have hx : a[i] ≠ a[k]'(by omega) := fun e => absurd (congrArg ByteArray.toList e) (by simpa using h4)
     repeat (first | (with_reducible first | refine Stp.up ?_ | refine fun (K : AK) hK => ?_ | refine wD ?_ | refine adrawG_k (by decide) ?_ | refine adrawG_e (by decide) ?_ | (refine hK _ ?_; clear hK K)) | simp only [go_sem, h4, eW2] | with_reducible refine wA ?_ | clear hK K)
     exact LNext.mk (k + 1) ⟨by omega, take_notin_succ (by omega) hno (fun e => hx e.symm)⟩ (by omega) (by (refine wk_mk ?_ ?_ ?_ <;> simp only [frm, List.foldl_cons, List.foldl_nil, List.replicate_succ, List.replicate_zero, WkT, WkO, AV.v.injEq, Value.int.injEq, Value.bool.injEq, Value.string.injEq, AV.vec.injEq, AV.ptr.injEq, true_or, or_true, false_or, or_false, AObj.mk.injEq, forall_eq_apply_imp_iff, forall_eq, forall_eq', go_sem]))
   ·have e : k = i := by (try simp only [beq_iff_eq, beq_eq_false_iff_ne, decide_eq_true_eq, decide_eq_false_iff_not, Int.ofNat_lt] at h3); omega
    rw [e] at hno
    repeat (first | (with_reducible first | refine Stp.up ?_ | refine fun (K : AK) hK => ?_ | refine wD ?_ | refine adrawG_k (by decide) ?_ | refine adrawG_e (by decide) ?_ | (refine hK _ ?_; clear hK K)) | simp only [go_sem, h3, eW] | with_reducible refine wA ?_ | clear hK K)
    exact LNext.mk (i + 1) ⟨by omega, take_nodup_succ hlt hnd hno⟩ (by omega) (by (refine wk_mk ?_ ?_ ?_ <;> simp only [frm, List.foldl_cons, List.foldl_nil, List.replicate_succ, List.replicate_zero, WkT, WkO, AV.v.injEq, Value.int.injEq, Value.bool.injEq, Value.string.injEq, AV.vec.injEq, AV.ptr.injEq, true_or, or_true, false_or, or_false, AObj.mk.injEq, forall_eq_apply_imp_iff, forall_eq, forall_eq', go_sem]))
 have e : a.take i = a := by rw [show i = a.length by (try simp only [beq_iff_eq, beq_eq_false_iff_ne, decide_eq_true_eq, decide_eq_false_iff_not, Int.ofNat_lt] at h); omega, List.take_length]
 rw [e] at hnd
 have hR := h1 hnd
 clear h1 h2 hnd e hd
 repeat ((fail_if_success (with_reducible refine stopR (i := 12) ?_)); first | (with_reducible first | refine Stp.up ?_ | refine fun (K : AK) hK => ?_ | refine adrawG_k (by decide) ?_ | refine adrawG_e (by decide) ?_ | (refine hK _ ?_; clear hK K)) | simp only [go_sem, h] | with_reducible refine wA ?_ | clear hK K)
 refine awp_turn (turn_cell (k := 2) (i := 0) (j := 0) 45 8 (by decide) rfl (Nat.zero_lt_succ _) rfl rfl) (by kernel_rfl) ?_
 simp only [List.length_cons, List.length_nil, Nat.reduceAdd, List.cons_append, List.nil_append, List.set_cons_zero, List.set_cons_succ]
 refine awp_turn (turn_cell (k := 2) (i := 0) (j := 1) 71 13 (by decide) rfl (Nat.zero_lt_succ _) rfl rfl) (by kernel_rfl) ?_
 simp only [List.length_cons, List.length_nil, Nat.reduceAdd, List.cons_append, List.nil_append, List.set_cons_zero, List.set_cons_succ]
 refine awp_turn (turn_cell (k := 2) (i := 0) (j := 2) 64 6 (by decide) rfl (Nat.zero_lt_succ _) rfl rfl) (by kernel_rfl) ?_
 simp only [List.length_cons, List.length_nil, Nat.reduceAdd, List.cons_append, List.nil_append, List.set_cons_zero, List.set_cons_succ]
 repeat (first | (with_reducible first | refine Stp.up ?_ | refine fun (K : AK) hK => ?_ | refine wD ?_ | refine adrawG_k (by decide) ?_ | refine adrawG_e (by decide) ?_ | (refine hK _ ?_; clear hK K)) | simp only [go_sem] | with_reducible refine wA ?_ | clear hK K)
 refine awp_loopO (ι := Nat) 48 (fun i => [(8, .undef), (9, .undef), (11, .v (.int .i64 i)), (12, .undef)]) (fun i => [some ⟨26, 5, false, [[.slc 8 (ps.map encP) ps.length, .slc 13 (cs.map encC) cs.length, .slc 6 (rs.map encO) rs.length, .v (.int .i64 ra), .v (.int .i64 sl)]]⟩, some ⟨26, 5, false, [[.v (.slice none 0 0), .v (.slice none 0 0), .v (.slice none 0 0), .v (.int .i64 0), .v (.int .i64 0)]]⟩,
  some ⟨26, 5, false, [[.vec 3 i, .vec 4 0, .vec 5 0, .v (.int .i64 ra), .v (.int .i64 sl)]]⟩, some ⟨45, 8, true, ((ps.map (mapP (renN a b))).take i).map encP⟩, some ⟨71, 13, true, []⟩, some ⟨64, 6, true, []⟩]) (fun i => ps.length - i) (fun i => i ≤ ps.length) 0 (by omega) ?_ ?_
 ·(refine wk_mk ?_ ?_ ?_ <;> simp only [frm, List.foldl_cons, List.foldl_nil, List.replicate_succ, List.replicate_zero, WkT, WkO, AV.v.injEq, Value.int.injEq, Value.bool.injEq, Value.string.injEq, AV.vec.injEq, AV.ptr.injEq, true_or, or_true, false_or, or_false, AObj.mk.injEq, forall_eq_apply_imp_iff, forall_eq, forall_eq', go_sem])
  all_goals rfl
 clear h hi
 rintro i hi K hK
 repeat (first | (with_reducible first | refine Stp.up ?_ | refine fun (K : AK) hK => ?_ | refine wD ?_ | refine adrawG_k (by decide) ?_ | refine adrawG_e (by decide) ?_ | (refine hK _ ?_; clear hK K)) | simp only [go_sem] | with_reducible refine wA ?_ | clear hK K)
 refine AIf.part (fun h => ?_) (fun h => ?_)
 ·have hlt : i < ps.length := by (try simp only [beq_iff_eq, beq_eq_false_iff_ne, decide_eq_true_eq, decide_eq_false_iff_not, Int.ofNat_lt] at h); omega
  have eW := wrap_succ (k := i) (by omega)
  have eG := getD_map encP ps i [] hlt
  have N1 := name11_c a b ps[i].frm hl ha
  have N2 := name11_c a b ps[i].to hl ha
  have N3 := name11_c a b ps[i].name hl ha
  have eL : ((ps.map (mapP (renN a b))).take i).length = i := by simp; omega
  have eT : ((ps.map (mapP (renN a b))).take (i + 1)).map encP = ((ps.map (mapP (renN a b))).take i).map encP ++ [encP (mapP (renN a b) ps[i])] := by
   rw [take_map_succ encP (ps.map (mapP (renN a b))) i (by simpa using hlt)]; simp
  have wP : ∀ n, wfR n (((ps.map (mapP (renN a b))).take i).map encP) = true := fun n => wf_encP n _
  have eLL : (((ps.map (mapP (renN a b))).take i).map encP).length = i := by rw [List.length_map, eL]
  generalize ((ps.map (mapP (renN a b))).take i).map encP = rr at eT wP eLL ⊢
  generalize ps[i] = p at N1 N2 N3 eG eT
  simp only [encP, encE_eq, mapP] at eG eT
  simp only [strsA] at N1 N2 N3
  repeat (first | (with_reducible first | refine Stp.up ?_ | refine fun (K : AK) hK => ?_ | refine wD ?_ | refine adrawG_k (by decide) ?_ | refine adrawG_e (by decide) ?_ | (refine hK _ ?_; clear hK K)) | simp only [go_sem, eG, h] | with_reducible refine wA ?_ | clear hK K)
  refine ACallV.one N1 ?_
  repeat (first | (with_reducible first | refine Stp.up ?_ | refine fun (K : AK) hK => ?_ | refine wD ?_ | refine adrawG_k (by decide) ?_ | refine adrawG_e (by decide) ?_ | (refine hK _ ?_; clear hK K)) | simp only [go_sem] | with_reducible refine wA ?_ | clear hK K)
  refine ACallV.one N2 ?_
  repeat (first | (with_reducible first | refine Stp.up ?_ | refine fun (K : AK) hK => ?_ | refine wD ?_ | refine adrawG_k (by decide) ?_ | refine adrawG_e (by decide) ?_ | (refine hK _ ?_; clear hK K)) | simp only [go_sem] | with_reducible refine wA ?_ | clear hK K)
  refine AIf.part (fun h2 => ?_) (fun h2 => ?_)
  ·have hno : noB p.name = true := by rw [toList_no]; exact h2
   rw [hno] at eT
   simp only [if_true] at eT
   repeat (first | (with_reducible first | refine Stp.up ?_ | refine fun (K : AK) hK => ?_ | refine wD ?_ | refine adrawG_k (by decide) ?_ | refine adrawG_e (by decide) ?_ | (refine hK _ ?_; clear hK K)) | simp only [go_sem, h2, eLL, eW] | with_reducible refine wA ?_ | clear hK K)
   exact LNext.mk (i + 1) (by omega) (by omega) (by (refine wk_mk ?_ ?_ ?_ <;> simp only [frm, List.foldl_cons, List.foldl_nil, List.replicate_succ, List.replicate_zero, WkT, WkO, AV.v.injEq, Value.int.injEq, Value.bool.injEq, Value.string.injEq, AV.vec.injEq, AV.ptr.injEq, true_or, or_true, false_or, or_false, AObj.mk.injEq, forall_eq_apply_imp_iff, forall_eq, forall_eq', go_sem]); exact eT.symm)
  ·have hno : noB p.name = false := by rw [toList_no]; exact h2
   rw [hno] at eT
   simp only [Bool.false_eq_true, if_false] at eT
   repeat (first | (with_reducible first | refine Stp.up ?_ | refine fun (K : AK) hK => ?_ | refine wD ?_ | refine adrawG_k (by decide) ?_ | refine adrawG_e (by decide) ?_ | (refine hK _ ?_; clear hK K)) | simp only [go_sem, h2] | with_reducible refine wA ?_ | clear hK K)
   refine ACallV.one N3 ?_
   repeat (first | (with_reducible first | refine Stp.up ?_ | refine fun (K : AK) hK => ?_ | refine wD ?_ | refine adrawG_k (by decide) ?_ | refine adrawG_e (by decide) ?_ | (refine hK _ ?_; clear hK K)) | simp only [go_sem, eLL, eW] | with_reducible refine wA ?_ | clear hK K)
   exact LNext.mk (i + 1) (by omega) (by omega) (by (refine wk_mk ?_ ?_ ?_ <;> simp only [frm, List.foldl_cons, List.foldl_nil, List.replicate_succ, List.replicate_zero, WkT, WkO, AV.v.injEq, Value.int.injEq, Value.bool.injEq, Value.string.injEq, AV.vec.injEq, AV.ptr.injEq, true_or, or_true, false_or, or_false, AObj.mk.injEq, forall_eq_apply_imp_iff, forall_eq, forall_eq', go_sem]); exact eT.symm)
 have hi' : i = ps.length := by (try simp only [beq_iff_eq, beq_eq_false_iff_ne, decide_eq_true_eq, decide_eq_false_iff_not, Int.ofNat_lt] at h); omega
 have eA : (ps.map (mapP (renN a b))).take ps.length = ps.map (mapP (renN a b)) := take_all (by simp)
 simp only [hi', eA]
 repeat (first | (with_reducible first | refine Stp.up ?_ | refine fun (K : AK) hK => ?_ | refine wD ?_ | refine adrawG_k (by decide) ?_ | refine adrawG_e (by decide) ?_ | (refine hK _ ?_; clear hK K)) | simp only [go_sem, h] | with_reducible refine wA ?_ | clear hK K)
 refine awp_loopO (ι := Nat) 87 (fun i => [(8, .undef), (9, .undef), (11, .undef), (12, .undef), (13, .v (.int .i64 i)), (14, .undef)]) (fun i => [some ⟨26, 5, false, [[.slc 8 (ps.map encP) ps.length, .slc 13 (cs.map encC) cs.length, .slc 6 (rs.map encO) rs.length, .v (.int .i64 ra), .v (.int .i64 sl)]]⟩, some ⟨26, 5, false, [[.v (.slice none 0 0), .v (.slice none 0 0), .v (.slice none 0 0), .v (.int .i64 0), .v (.int .i64 0)]]⟩,
  some ⟨26, 5, false, [[.vec 3 ps.length, .vec 4 i, .vec 5 0, .v (.int .i64 ra), .v (.int .i64 sl)]]⟩, some ⟨45, 8, true, (ps.map (mapP (renN a b))).map encP⟩, some ⟨71, 13, true, ((cs.map (mapC (renN a b))).take i).map encC⟩, some ⟨64, 6, true, []⟩]) (fun i => cs.length - i) (fun i => i ≤ cs.length) 0 (by omega) ?_ ?_
 ·(refine wk_mk ?_ ?_ ?_ <;> simp only [frm, List.foldl_cons, List.foldl_nil, List.replicate_succ, List.replicate_zero, WkT, WkO, AV.v.injEq, Value.int.injEq, Value.bool.injEq, Value.string.injEq, AV.vec.injEq, AV.ptr.injEq, true_or, or_true, false_or, or_false, AObj.mk.injEq, forall_eq_apply_imp_iff, forall_eq, forall_eq', go_sem])
  all_goals rfl
 clear h hi' hi
 rintro i hi K hK
 repeat (first | (with_reducible first | refine Stp.up ?_ | refine fun (K : AK) hK => ?_ | refine wD ?_ | refine adrawG_k (by decide) ?_ | refine adrawG_e (by decide) ?_ | (refine hK _ ?_; clear hK K)) | simp only [go_sem] | with_reducible refine wA ?_ | clear hK K)
 refine AIf.part (fun h => ?_) (fun h => ?_)
 ·have hlt : i < cs.length := by (try simp only [beq_iff_eq, beq_eq_false_iff_ne, decide_eq_true_eq, decide_eq_false_iff_not, Int.ofNat_lt] at h); omega
  have eW := wrap_succ (k := i) (by omega)
  have eG := getD_map encC cs i [] hlt
  have N1 := operandR_c a b cs[i].left hl ha
  have N2 := operandR_c a b cs[i].right hl ha
  have eL : ((cs.map (mapC (renN a b))).take i).length = i := by simp; omega
  have eT : ((cs.map (mapC (renN a b))).take (i + 1)).map encC = ((cs.map (mapC (renN a b))).take i).map encC ++ [encC (mapC (renN a b) cs[i])] := by
   rw [take_map_succ encC (cs.map (mapC (renN a b))) i (by simpa using hlt)]; simp
  have wP : ∀ n, wfR n (((cs.map (mapC (renN a b))).take i).map encC) = true := fun n => wf_encC n _
  have eLL : (((cs.map (mapC (renN a b))).take i).map encC).length = i := by rw [List.length_map, eL]
  generalize ((cs.map (mapC (renN a b))).take i).map encC = rr at eT wP eLL ⊢
  generalize cs[i] = p at N1 N2 eG eT
  simp only [renO] at N1 N2
  simp only [encC, mapC] at eG eT
  simp only [encO, strsA] at N1 N2
  repeat (first | (with_reducible first | refine Stp.up ?_ | refine fun (K : AK) hK => ?_ | refine adrawG_k (by decide) ?_ | refine adrawG_e (by decide) ?_ | (refine hK _ ?_; clear hK K)) | simp only [go_sem, eG, h] | with_reducible refine wA ?_ | clear hK K)
  refine awp_drawG [16, 18] [] (by decide +kernel) (by kernel_rfl) ?_
  repeat (first | (with_reducible first | refine Stp.up ?_ | refine fun (K : AK) hK => ?_ | refine adrawG_k (by decide) ?_ | refine adrawG_e (by decide) ?_ | (refine hK _ ?_; clear hK K)) | simp only [go_sem, eG] | with_reducible refine wA ?_ | clear hK K)
  refine ACallS.one N1 ?_
  repeat (first | (with_reducible first | refine Stp.up ?_ | refine fun (K : AK) hK => ?_ | refine adrawG_k (by decide) ?_ | refine adrawG_e (by decide) ?_ | (refine hK _ ?_; clear hK K)) | simp only [go_sem, eG] | with_reducible refine wA ?_ | clear hK K)
  refine ACallS.one N2 ?_
  repeat (first | (with_reducible first | refine Stp.up ?_ | refine fun (K : AK) hK => ?_ | refine adrawG_k (by decide) ?_ | refine adrawG_e (by decide) ?_ | (refine hK _ ?_; clear hK K)) | simp only [go_sem, eLL, eW] | with_reducible refine wA ?_ | clear hK K)
  exact LNext.mk (i + 1) (by omega) (by omega) (by (refine wk_mk ?_ ?_ ?_ <;> simp only [frm, List.foldl_cons, List.foldl_nil, List.replicate_succ, List.replicate_zero, WkT, WkO, AV.v.injEq, Value.int.injEq, Value.bool.injEq, Value.string.injEq, AV.vec.injEq, AV.ptr.injEq, true_or, or_true, false_or, or_false, AObj.mk.injEq, forall_eq_apply_imp_iff, forall_eq, forall_eq', go_sem]); exact eT.symm)
 have hi' : i = cs.length := by (try simp only [beq_iff_eq, beq_eq_false_iff_ne, decide_eq_true_eq, decide_eq_false_iff_not, Int.ofNat_lt] at h); omega
 have eA : (cs.map (mapC (renN a b))).take cs.length = cs.map (mapC (renN a b)) := take_all (by simp)
 simp only [hi', eA]
 repeat (first | (with_reducible first | refine Stp.up ?_ | refine fun (K : AK) hK => ?_ | refine wD ?_ | refine adrawG_k (by decide) ?_ | refine adrawG_e (by decide) ?_ | (refine hK _ ?_; clear hK K)) | simp only [go_sem, h] | with_reducible refine wA ?_ | clear hK K)
 refine awp_loopO (ι := Nat) 117 (fun i => [(8, .undef), (9, .undef), (11, .undef), (12, .undef), (13, .undef), (14, .undef), (15, .v (.int .i64 i))]) (fun i => [some ⟨26, 5, false, [[.slc 8 (ps.map encP) ps.length, .slc 13 (cs.map encC) cs.length, .slc 6 (rs.map encO) rs.length, .v (.int .i64 ra), .v (.int .i64 sl)]]⟩, some ⟨26, 5, false, [[.v (.slice none 0 0), .v (.slice none 0 0), .v (.slice none 0 0), .v (.int .i64 0), .v (.int .i64 0)]]⟩,
  some ⟨26, 5, false, [[.vec 3 ps.length, .vec 4 cs.length, .vec 5 i, .v (.int .i64 ra), .v (.int .i64 sl)]]⟩, some ⟨45, 8, true, (ps.map (mapP (renN a b))).map encP⟩, some ⟨71, 13, true, (cs.map (mapC (renN a b))).map encC⟩, some ⟨64, 6, true, ((rs.map (mapO (renN a b))).take i).map encO⟩]) (fun i => rs.length - i) (fun i => i ≤ rs.length) 0 (by omega) ?_ ?_
 ·(refine wk_mk ?_ ?_ ?_ <;> simp only [frm, List.foldl_cons, List.foldl_nil, List.replicate_succ, List.replicate_zero, WkT, WkO, AV.v.injEq, Value.int.injEq, Value.bool.injEq, Value.string.injEq, AV.vec.injEq, AV.ptr.injEq, true_or, or_true, false_or, or_false, AObj.mk.injEq, forall_eq_apply_imp_iff, forall_eq, forall_eq', go_sem])
  all_goals rfl
 clear h hi' hi
 rintro i hi K hK
 repeat (first | (with_reducible first | refine Stp.up ?_ | refine fun (K : AK) hK => ?_ | refine wD ?_ | refine adrawG_k (by decide) ?_ | refine adrawG_e (by decide) ?_ | (refine hK _ ?_; clear hK K)) | simp only [go_sem] | with_reducible refine wA ?_ | clear hK K)
 refine AIf.part (fun h => ?_) (fun h => ?_)
 ·have hlt : i < rs.length := by (try simp only [beq_iff_eq, beq_eq_false_iff_ne, decide_eq_true_eq, decide_eq_false_iff_not, Int.ofNat_lt] at h); omega
  have eW := wrap_succ (k := i) (by omega)
  have eG := getD_map encO rs i [] hlt
  have N1 := operandR_c a b rs[i] hl ha
  have eL : ((rs.map (mapO (renN a b))).take i).length = i := by simp; omega
  have eT : ((rs.map (mapO (renN a b))).take (i + 1)).map encO = ((rs.map (mapO (renN a b))).take i).map encO ++ [encO (mapO (renN a b) rs[i])] := by
   rw [take_map_succ encO (rs.map (mapO (renN a b))) i (by simpa using hlt)]; simp
  have wP : ∀ n, wfR n (((rs.map (mapO (renN a b))).take i).map encO) = true := fun n => wf_encO n _
  have eLL : (((rs.map (mapO (renN a b))).take i).map encO).length = i := by rw [List.length_map, eL]
  generalize ((rs.map (mapO (renN a b))).take i).map encO = rr at eT wP eLL ⊢
  simp only [renO] at N1
  simp only [encO, strsA] at N1 eG eT
  repeat (first | (with_reducible first | refine Stp.up ?_ | refine fun (K : AK) hK => ?_ | refine adrawG_k (by decide) ?_ | refine adrawG_e (by decide) ?_ | (refine hK _ ?_; clear hK K)) | simp only [go_sem, eG, h] | with_reducible refine wA ?_ | clear hK K)
  refine awp_drawG [11, 13] [] (by decide +kernel) (by kernel_rfl) ?_
  repeat (first | (with_reducible first | refine Stp.up ?_ | refine fun (K : AK) hK => ?_ | refine adrawG_k (by decide) ?_ | refine adrawG_e (by decide) ?_ | (refine hK _ ?_; clear hK K)) | simp only [go_sem, eG] | with_reducible refine wA ?_ | clear hK K)
  refine ACallS.one N1 ?_
  repeat (first | (with_reducible first | refine Stp.up ?_ | refine fun (K : AK) hK => ?_ | refine adrawG_k (by decide) ?_ | refine adrawG_e (by decide) ?_ | (refine hK _ ?_; clear hK K)) | simp only [go_sem, eLL, eW] | with_reducible refine wA ?_ | clear hK K)
  exact LNext.mk (i + 1) (by omega) (by omega) (by (refine wk_mk ?_ ?_ ?_ <;> simp only [frm, List.foldl_cons, List.foldl_nil, List.replicate_succ, List.replicate_zero, WkT, WkO, AV.v.injEq, Value.int.injEq, Value.bool.injEq, Value.string.injEq, AV.vec.injEq, AV.ptr.injEq, true_or, or_true, false_or, or_false, AObj.mk.injEq, forall_eq_apply_imp_iff, forall_eq, forall_eq', go_sem]); exact eT.symm)
 have hi' : i = rs.length := by (try simp only [beq_iff_eq, beq_eq_false_iff_ne, decide_eq_true_eq, decide_eq_false_iff_not, Int.ofNat_lt] at h); omega
 have eA : (rs.map (mapO (renN a b))).take rs.length = rs.map (mapO (renN a b)) := take_all (by simp)
 simp only [hi', eA]
 repeat (first | (with_reducible first | refine Stp.up ?_ | refine fun (K : AK) hK => ?_ | refine wD ?_ | refine adrawG_k (by decide) ?_ | refine adrawG_e (by decide) ?_ | (refine hK _ ?_; clear hK K)) | simp only [go_sem, h] | with_reducible refine wA ?_ | clear hK K)
 rw [hR]
 simp only [mapQ, encQ, List.length_map]
 (refine AFz.of 40 rfl ?_; simp only [go_sem])
end Go.Proofs.Ytldnlbcibmmbbaa
