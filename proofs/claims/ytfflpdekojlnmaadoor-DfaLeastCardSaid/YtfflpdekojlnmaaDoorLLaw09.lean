/- kinescopelaw09: size, of, label, awake. -/
import Derived.Test.YtfflpdekojlnmaaDoorLDfaT
import Derived.Test.YtfflpdekojlnmaaDoorLLaw07
import Derived.Test.YtfflpdekojlnmaaDoorLLens
set_option linter.unusedSimpArgs false
set_option linter.unusedVariables false
namespace Go.Proofs.YtfflpdekojlnmaaDoor
open Go.RowKit

set_option maxRecDepth 100000 in
set_option maxHeartbeats 4000000 in
theorem lsize09_c (x : Ex) : ∀ d : Nat, d ≤ 61 → Call1 Tryd.prog 5 [.agg (encE x), .v (.int .i64 d)] (.v (.int .i64 (sX x d : Nat))) := by
 induction x using Ex.ind with
 | h k s l ih =>
  intro d hd61
  simp only [encE_eq, sX, Ex.kind, Ex.label, Ex.kids]
  by_cases hdd : 60 < d
  ·rw [if_pos hdd]
   have hd0 : decide (60 < (d : Int)) = true := decide_eq_true (by omega)
   (refine Call1.enter Tryd.func5 rfl (by kernel_rfl) (by kernel_rfl) rfl (by first | rfl | (simp only [go_sem, Bool.and_self, Bool.and_true, Bool.true_and])) (by first | rfl | (simp only [go_sem, Bool.and_self, Bool.and_true, Bool.true_and])) ?_; simp only [Tryd.ntmps5, Tryd.results5, List.length_cons, List.length_nil, Nat.reduceAdd, Nat.reduceSub, List.replicate_succ, List.replicate_zero, List.cons_append, List.nil_append])
   repeat (first | (with_reducible first | refine Stp.up ?_ | refine fun (K : AK) hK => ?_ | (refine hK _ ?_; clear hK K)) | simp only [go_sem, hd0] | with_reducible refine wA ?_ | clear hK K)
   rfl
  ·rw [if_neg hdd]
   have hd0 : decide (60 < (d : Int)) = false := decide_eq_false (by omega)
   have eD := wrap_succ (k := d) (by omega)
   (refine Call1.enter Tryd.func5 rfl (by kernel_rfl) (by kernel_rfl) rfl (by first | rfl | (simp only [go_sem, Bool.and_self, Bool.and_true, Bool.true_and])) (by first | rfl | (simp only [go_sem, Bool.and_self, Bool.and_true, Bool.true_and])) ?_; simp only [Tryd.ntmps5, Tryd.results5, List.length_cons, List.length_nil, Nat.reduceAdd, Nat.reduceSub, List.replicate_succ, List.replicate_zero, List.cons_append, List.nil_append])
   repeat (first | (with_reducible first | refine Stp.up ?_ | refine fun (K : AK) hK => ?_ | (refine hK _ ?_; clear hK K)) | simp only [go_sem, hd0] | with_reducible refine wA ?_ | clear hK K)
   refine awp_loopK (ι := Nat) 9 (fun i => [(5, .v (.int .i64 (sL (l.take i) (d + 1) 1 : Nat))), (6, .v (.int .i64 i))]) (fun i => l.length - i) (fun i => i ≤ l.length ∧ i + 1 ≤ sL (l.take i) (d + 1) 1) 0 ⟨Nat.zero_le _, Nat.le_refl _⟩ ?_ ?_
   ·(refine wk_mk ?_ ?_ ?_ <;> simp only [frm, List.foldl_cons, List.foldl_nil, List.replicate_succ, List.replicate_zero, WkT, WkO, AV.v.injEq, Value.int.injEq, Value.bool.injEq, Value.string.injEq, AV.vec.injEq, AV.ptr.injEq, true_or, or_true, false_or, or_false, AObj.mk.injEq, forall_eq_apply_imp_iff, forall_eq, forall_eq', go_sem])
    exact ⟨rfl, rfl⟩
   rintro i ⟨hi, hin⟩ K hK
   have hr := sL_rng (l.take i) (d + 1) 1 (by omega)
   repeat (first | (with_reducible first | refine Stp.up ?_ | refine fun (K : AK) hK => ?_ | (refine hK _ ?_; clear hK K)) | simp only [go_sem] | with_reducible refine wA ?_ | clear hK K)
   refine AIf.part (fun h => ?_) (fun h => ?_)
   ·have hlt : i < l.length := by (try simp only [bne_iff_ne, ne_eq, bne_eq_false_iff_eq, beq_iff_eq, beq_eq_false_iff_ne, decide_eq_true_eq, decide_eq_false_iff_not, Bool.not_eq_eq_eq_not, Int.natCast_inj, Int.ofNat_lt, Int.ofNat_le] at h); omega
    by_cases hb2 : sL (l.take i) (d + 1) 1 ≤ 300
    ·have eW := wrap_succ (k := i) (by omega)
     have eG := getD_map encE l i [] hlt
     have HX := ih l[i] (List.getElem_mem hlt) (d + 1) (by omega)
     have eT := sL_take l (d + 1) 1 i hlt hb2
     have hr2 := sX_rng l[i] (d + 1) (by omega)
     have hd : decide (((sL (l.take i) (d + 1) 1 : Nat) : Int) ≤ 300) = true := decide_eq_true (by omega)
     have eS : IntKind.i64.wrap (((sL (l.take i) (d + 1) 1 : Nat) : Int) + ((sX l[i] (d + 1) : Nat) : Int)) = ((sL (l.take (i + 1)) (d + 1) 1 : Nat) : Int) := by rw [wrap_id (by omega) (by omega), eT]; omega
     simp only [encE_eq] at HX eG
     repeat (first | (with_reducible first | refine Stp.up ?_ | refine fun (K : AK) hK => ?_ | (refine hK _ ?_; clear hK K)) | simp only [go_sem, hd, h, eG, encE_eq, eD] | with_reducible refine wA ?_ | clear hK K)
     refine ACallV.one HX ?_
     repeat (first | (with_reducible first | refine Stp.up ?_ | refine fun (K : AK) hK => ?_ | (refine hK _ ?_; clear hK K)) | simp only [go_sem, eS, eW] | with_reducible refine wA ?_ | clear hK K)
     exact LNext.mk (i + 1) ⟨by omega, by omega⟩ (by omega) (by (refine wk_mk ?_ ?_ ?_ <;> simp only [frm, List.foldl_cons, List.foldl_nil, List.replicate_succ, List.replicate_zero, WkT, WkO, AV.v.injEq, Value.int.injEq, Value.bool.injEq, Value.string.injEq, AV.vec.injEq, AV.ptr.injEq, true_or, or_true, false_or, or_false, AObj.mk.injEq, forall_eq_apply_imp_iff, forall_eq, forall_eq', go_sem]))
    ·have eT := sL_stop l (d + 1) 1 i (by omega)
     have hd : decide (((sL (l.take i) (d + 1) 1 : Nat) : Int) ≤ 300) = false := decide_eq_false (by omega)
     repeat (first | (with_reducible first | refine Stp.up ?_ | refine fun (K : AK) hK => ?_ | (refine hK _ ?_; clear hK K)) | simp only [go_sem, hd, h] | with_reducible refine wA ?_ | clear hK K)
     rw [eT]
   ·have e1 : l.take i = l := by rw [show i = l.length by (try simp only [bne_iff_ne, ne_eq, bne_eq_false_iff_eq, beq_iff_eq, beq_eq_false_iff_ne, decide_eq_true_eq, decide_eq_false_iff_not, Bool.not_eq_eq_eq_not, Int.natCast_inj, Int.ofNat_lt, Int.ofNat_le] at h); omega, List.take_length]
    repeat (first | (with_reducible first | refine Stp.up ?_ | refine fun (K : AK) hK => ?_ | (refine hK _ ?_; clear hK K)) | simp only [go_sem, e1, h] | with_reducible refine wA ?_ | clear hK K)
set_option maxRecDepth 100000 in
theorem lof09_c (k : Int) (rows : List (List AV)) (n : Nat) (hw : wfR 0 rows = true) : Call1 Tryd.prog 11 [.v (.int .i64 k), .slc 3 rows n] (.agg [.v (.int .i64 k), .v (.string ⟨#[]⟩), .slc 3 rows n]) := by
 (refine Call1.enter Tryd.func11 rfl (by kernel_rfl) (by kernel_rfl) rfl (by simp only [go_sem, wfL, AV.wf, Bool.and_self, Bool.and_true, Bool.true_and, hw]) (by simp only [go_sem, wfL, AV.wf, wf_encS, Bool.and_self, Bool.and_true, Bool.true_and, hw]) ?_; simp only [Tryd.ntmps11, Tryd.results11, List.length_cons, List.length_nil, Nat.reduceAdd, Nat.reduceSub, List.replicate_succ, List.replicate_zero, List.cons_append, List.nil_append])
 repeat' (first | (with_reducible first | refine Stp.up ?_ | refine fun (K : AK) hK => ?_ | (refine hK _ ?_; clear hK K)) | simp only [go_sem] | clear hK K | (with_reducible refine ACallV.one (by assumption) ?_) | (with_reducible refine ACallS.one (by assumption) ?_) | (refine AIf.part (fun hb => ?_) (fun hb => ?_) <;> simp only [hb, go_sem]) | (refine AIf.part (fun hb => ?_) (fun hb => ?_)) | (with_reducible refine ABoth.mk ?_ ?_))
 refine AFz.of 40 rfl ?_
 simp only [go_sem, hw]
set_option maxRecDepth 100000 in
theorem llabel09_c (s : ByteArray) : Call1 Tryd.prog 13 [.v (.string s)] (.agg [.v (.int .i64 1), .v (.string s), .v (.slice none 0 0)]) := by
 (refine Call1.enter Tryd.func13 rfl (by kernel_rfl) (by kernel_rfl) rfl (by first | rfl | (simp only [go_sem, Bool.and_self, Bool.and_true, Bool.true_and])) (by first | rfl | (simp only [go_sem, Bool.and_self, Bool.and_true, Bool.true_and])) ?_; simp only [Tryd.ntmps13, Tryd.results13, List.length_cons, List.length_nil, Nat.reduceAdd, Nat.reduceSub, List.replicate_succ, List.replicate_zero, List.cons_append, List.nil_append])
 repeat' (first | (with_reducible first | refine Stp.up ?_ | refine fun (K : AK) hK => ?_ | (refine hK _ ?_; clear hK K)) | simp only [go_sem] | clear hK K | (with_reducible refine ACallV.one (by assumption) ?_) | (with_reducible refine ACallS.one (by assumption) ?_) | (refine AIf.part (fun hb => ?_) (fun hb => ?_) <;> simp only [hb, go_sem]) | (refine AIf.part (fun hb => ?_) (fun hb => ?_)) | (with_reducible refine ABoth.mk ?_ ?_))
 (refine AFz.of 40 rfl ?_; simp only [go_sem])
theorem auto_ok {x : Ex} {A : ADt} (h : autoM x (labX x) = .inl A) : exRight x = true ∧ A.labs = labX x ∧ ALaw' x A ∧ LOk A := by
 have hr : exRight x = true := by
  cases hr : exRight x
  ·rw [autoM, hr] at h; simp at h
  ·rfl
 have L := autoM_law hr (labX_nd x) (labX_sp hr) (fun l hl => labX_mem.2 hl) h
 have e : A.labs = labX x := by
  rw [autoM, if_pos hr] at h
  split at h
  ·split at h
   ·cases h
   ·simp only [Sum.inl.injEq] at h; rw [← h]; rfl
  ·cases h
 exact ⟨hr, e, L, { L.toAOk with nd := by rw [e]; exact labX_nd x, sz := by rw [e]; exact labX_sz hr, few := by rw [e]; exact labX_n hr }⟩
theorem okT_s {s : ByteArray} (h : s.size ≤ 100) : okT s := by unfold okT; omega
/-! ### expressions as the law's own hand makes them: no kids is nil -/
mutual
def encK : Ex → List AV
 | .mk k s l => [.v (.int .i64 k), .v (.string s), if l.isEmpty then .v (.slice none 0 0) else .slc 3 (encKs l) l.length]
def encKs : List Ex → List (List AV)
 | [] => []
 | x :: xs => encK x :: encKs xs
end
theorem encKs_eq : ∀ l : List Ex, encKs l = l.map encK
 | [] => rfl
 | x :: xs => by rw [encKs, encKs_eq xs]; rfl
theorem encK_le (x : Ex) : LeL (encK x) (encE x) := by
 induction x using Ex.ind with
 | h k s l ih =>
  rw [encK, encE_eq]
  refine .cons (.refl _) (.cons (.refl _) (.cons ?_ .nil))
  cases l with
  | nil => exact .nil 3
  | cons y l =>
   have := Le.rows (z := 3) (f := encK) (g := encE) (xs := y :: l) (more := []) ih
   rw [List.append_nil] at this
   rw [encKs_eq]
   exact this
set_option maxRecDepth 100000 in
set_option maxHeartbeats 4000000 in
theorem awake09_c : Call1 Tryd.prog 4 [] (.v (.bool true)) := by
 have oA : exA.ok := by simp only [exA, exL, Ex.ok, exsOk, and_true]; exact ⟨okT_s (by decide), okT_s (by decide), okT_s (by decide), okT_s (by decide)⟩
 have oB : exB.ok := by simp only [exB, exL, Ex.ok, exsOk, and_true]; exact ⟨okT_s (by decide), okT_s (by decide), okT_s (by decide), okT_s (by decide), okT_s (by decide), okT_s (by decide)⟩
 have oC : exC.ok := by simp only [exC, exL, Ex.ok, exsOk, and_true]; exact ⟨okT_s (by decide), okT_s (by decide)⟩
 have NA := (dnew_c exA oA).le (args' := [.agg (encK exA)]) rfl (.cons (encK_le exA).agg .nil)
 have NB := (dnew_c exB oB).le (args' := [.agg (encK exB)]) rfl (.cons (encK_le exB).agg .nil)
 have NC := (dnew_c exC oC).le (args' := [.agg (encK exC)]) rfl (.cons (encK_le exC).agg .nil)
 rw [newA, au_A] at NA
 rw [newA, au_B] at NB
 rw [newA, au_C] at NC
 have lA := (auto_ok au_A).2.2.2
 have lB := (auto_ok au_B).2.2.2
 have C1 : Call1 Tryd.prog 8 [.vp (autoV auA)] (.v (.int .i64 2)) := dlen_c auA
 have C2 := dtakes_c auA rfl 0
 rw [show takesX auA 0 = true by kernel_rfl] at C2
 have C3 := dtakes_c auA rfl 1
 rw [show takesX auA 1 = false by kernel_rfl] at C3
 have S1 := dstep_c auA 0 ta
 rw [show stepX auA 0 ta = some 1 by kernel_rfl] at S1
 have S2 := dstep_c auA 1 tb
 rw [show stepX auA 1 tb = some 0 by kernel_rfl] at S2
 have S3 := dstep_c auA 0 tb
 rw [show stepX auA 0 tb = none by kernel_rfl] at S3
 have E1 := dsame_c lB lB
 rw [show sameX auB auB = true by kernel_rfl] at E1
 have E2 := dsame_c lA lB
 rw [show sameX auA auB = false by kernel_rfl] at E2
 have wA := wf_autoV 0 auA
 have wB := wf_autoV 0 auB
 have L1 := llabel09_c ta
 have L2 := llabel09_c tb
 have O1 := lof09_c 2 [[.v (.int .i64 1), .v (.string ta), .v (.slice none 0 0)], [.v (.int .i64 1), .v (.string tb), .v (.slice none 0 0)]] 2 rfl
 have O2 := lof09_c 4 [[.v (.int .i64 2), .v (.string ⟨#[]⟩), .slc 3 [[.v (.int .i64 1), .v (.string ta), .v (.slice none 0 0)], [.v (.int .i64 1), .v (.string tb), .v (.slice none 0 0)]] 2]] 1 rfl
 have O3 := lof09_c 4 [[.v (.int .i64 1), .v (.string ta), .v (.slice none 0 0)]] 1 rfl
 have O4 := lof09_c 2 [[.v (.int .i64 1), .v (.string ta), .v (.slice none 0 0)], [.v (.int .i64 4), .v (.string ⟨#[]⟩), .slc 3 [[.v (.int .i64 1), .v (.string ta), .v (.slice none 0 0)]] 1]] 2 rfl
 have O5 := lof09_c 3 [[.v (.int .i64 1), .v (.string ta), .v (.slice none 0 0)], [.v (.int .i64 2), .v (.string ⟨#[]⟩), .slc 3 [[.v (.int .i64 1), .v (.string ta), .v (.slice none 0 0)], [.v (.int .i64 4), .v (.string ⟨#[]⟩), .slc 3 [[.v (.int .i64 1), .v (.string ta), .v (.slice none 0 0)]] 1]] 2]] 2 rfl
 have O6 := lof09_c 5 [[.v (.int .i64 1), .v (.string ta), .v (.slice none 0 0)]] 1 rfl
 have c0 : ((0 : Nat) : Int) = 0 := rfl
 have c1 : ((1 : Nat) : Int) = 1 := rfl
 simp only [stepT, Option.getD_some, Option.isSome_some, Option.getD_none, Option.isSome_none, c0, c1] at S1 S2 S3
 simp only [exA, exB, exC, exL, encK, encKs, List.isEmpty_nil, List.isEmpty_cons, List.length_cons, List.length_nil, Nat.reduceAdd, if_true, Bool.false_eq_true, if_false, ta, tb] at NA NB NC L1 L2 O1 O2 O3 O4 O5 O6 S1 S2 S3
 generalize autoV auA = vA at *
 generalize autoV auB = vB at *
 (refine Call1.enter Tryd.func4 rfl (by kernel_rfl) (by kernel_rfl) rfl (by first | rfl | (simp only [go_sem, Bool.and_self, Bool.and_true, Bool.true_and])) (by first | rfl | (simp only [go_sem, Bool.and_self, Bool.and_true, Bool.true_and])) ?_; simp only [Tryd.ntmps4, Tryd.results4, List.length_cons, List.length_nil, Nat.reduceAdd, Nat.reduceSub, List.replicate_succ, List.replicate_zero, List.cons_append, List.nil_append])
 repeat (first | (with_reducible first | refine Stp.up ?_ | refine fun (K : AK) hK => ?_ | (refine hK _ ?_; clear hK K)) | simp only [go_sem] | with_reducible refine wA ?_ | clear hK K)
 refine ACallV.one L1 ?_
 repeat (first | (with_reducible first | refine Stp.up ?_ | refine fun (K : AK) hK => ?_ | (refine hK _ ?_; clear hK K)) | simp only [go_sem] | with_reducible refine wA ?_ | clear hK K)
 refine ACallV.one L2 ?_
 repeat (first | (with_reducible first | refine Stp.up ?_ | refine fun (K : AK) hK => ?_ | (refine hK _ ?_; clear hK K)) | simp only [go_sem] | with_reducible refine wA ?_ | clear hK K)
 refine ACallV.give O1 rfl (by simp only [go_sem, Nat.reduceLT, Nat.reduceLeDiff, Nat.reduceEqDiff, Nat.lt_add_one, Nat.zero_lt_one, and_self]) ?_
 repeat (first | (with_reducible first | refine Stp.up ?_ | refine fun (K : AK) hK => ?_ | (refine hK _ ?_; clear hK K)) | simp only [go_sem] | with_reducible refine wA ?_ | clear hK K)
 refine ACallV.give O2 rfl (by simp only [go_sem, Nat.reduceLT, Nat.reduceLeDiff, Nat.reduceEqDiff, Nat.lt_add_one, Nat.zero_lt_one, and_self]) ?_
 repeat (first | (with_reducible first | refine Stp.up ?_ | refine fun (K : AK) hK => ?_ | (refine hK _ ?_; clear hK K)) | simp only [go_sem] | with_reducible refine wA ?_ | clear hK K)
 refine ACallV.one NA ?_
 repeat (first | (with_reducible first | refine Stp.up ?_ | refine fun (K : AK) hK => ?_ | (refine hK _ ?_; clear hK K)) | simp only [go_sem, Go.undef] | with_reducible refine wA ?_ | clear hK K)
 refine ACallV.one C1 ?_
 repeat (first | (with_reducible first | refine Stp.up ?_ | refine fun (K : AK) hK => ?_ | (refine hK _ ?_; clear hK K)) | simp only [go_sem, Go.undef] | with_reducible refine wA ?_ | clear hK K)
 refine ACallV.one C2 ?_
 repeat (first | (with_reducible first | refine Stp.up ?_ | refine fun (K : AK) hK => ?_ | (refine hK _ ?_; clear hK K)) | simp only [go_sem, Go.undef] | with_reducible refine wA ?_ | clear hK K)
 refine ACallV.one C3 ?_
 repeat (first | (with_reducible first | refine Stp.up ?_ | refine fun (K : AK) hK => ?_ | (refine hK _ ?_; clear hK K)) | simp only [go_sem, Go.undef] | with_reducible refine wA ?_ | clear hK K)
 refine ACallV.one S1 ?_
 repeat (first | (with_reducible first | refine Stp.up ?_ | refine fun (K : AK) hK => ?_ | (refine hK _ ?_; clear hK K)) | simp only [go_sem, Go.undef] | with_reducible refine wA ?_ | clear hK K)
 refine ACallV.one S2 ?_
 repeat (first | (with_reducible first | refine Stp.up ?_ | refine fun (K : AK) hK => ?_ | (refine hK _ ?_; clear hK K)) | simp only [go_sem, Go.undef] | with_reducible refine wA ?_ | clear hK K)
 refine ACallV.one S3 ?_
 repeat (first | (with_reducible first | refine Stp.up ?_ | refine fun (K : AK) hK => ?_ | (refine hK _ ?_; clear hK K)) | simp only [go_sem, Go.undef] | with_reducible refine wA ?_ | clear hK K)
 refine ACallV.one L1 ?_
 repeat (first | (with_reducible first | refine Stp.up ?_ | refine fun (K : AK) hK => ?_ | (refine hK _ ?_; clear hK K)) | simp only [go_sem, Go.undef] | with_reducible refine wA ?_ | clear hK K)
 refine ACallV.one L1 ?_
 repeat (first | (with_reducible first | refine Stp.up ?_ | refine fun (K : AK) hK => ?_ | (refine hK _ ?_; clear hK K)) | simp only [go_sem, Go.undef] | with_reducible refine wA ?_ | clear hK K)
 refine ACallV.one L1 ?_
 repeat (first | (with_reducible first | refine Stp.up ?_ | refine fun (K : AK) hK => ?_ | (refine hK _ ?_; clear hK K)) | simp only [go_sem, Go.undef] | with_reducible refine wA ?_ | clear hK K)
 refine ACallV.give O3 rfl (by simp only [go_sem, Nat.reduceLT, Nat.reduceLeDiff, Nat.reduceEqDiff, Nat.lt_add_one, Nat.zero_lt_one, and_self]) ?_
 repeat (first | (with_reducible first | refine Stp.up ?_ | refine fun (K : AK) hK => ?_ | (refine hK _ ?_; clear hK K)) | simp only [go_sem, Go.undef] | with_reducible refine wA ?_ | clear hK K)
 refine ACallV.give O4 rfl (by simp only [go_sem, Nat.reduceLT, Nat.reduceLeDiff, Nat.reduceEqDiff, Nat.lt_add_one, Nat.zero_lt_one, and_self]) ?_
 repeat (first | (with_reducible first | refine Stp.up ?_ | refine fun (K : AK) hK => ?_ | (refine hK _ ?_; clear hK K)) | simp only [go_sem, Go.undef] | with_reducible refine wA ?_ | clear hK K)
 refine ACallV.give O5 rfl (by simp only [go_sem, Nat.reduceLT, Nat.reduceLeDiff, Nat.reduceEqDiff, Nat.lt_add_one, Nat.zero_lt_one, and_self]) ?_
 repeat (first | (with_reducible first | refine Stp.up ?_ | refine fun (K : AK) hK => ?_ | (refine hK _ ?_; clear hK K)) | simp only [go_sem, Go.undef] | with_reducible refine wA ?_ | clear hK K)
 refine ACallV.one NB ?_
 repeat (first | (with_reducible first | refine Stp.up ?_ | refine fun (K : AK) hK => ?_ | (refine hK _ ?_; clear hK K)) | simp only [go_sem, Go.undef] | with_reducible refine wA ?_ | clear hK K)
 refine ACallV.one L1 ?_
 repeat (first | (with_reducible first | refine Stp.up ?_ | refine fun (K : AK) hK => ?_ | (refine hK _ ?_; clear hK K)) | simp only [go_sem, Go.undef] | with_reducible refine wA ?_ | clear hK K)
 refine ACallV.give O6 rfl (by simp only [go_sem, Nat.reduceLT, Nat.reduceLeDiff, Nat.reduceEqDiff, Nat.lt_add_one, Nat.zero_lt_one, and_self]) ?_
 repeat (first | (with_reducible first | refine Stp.up ?_ | refine fun (K : AK) hK => ?_ | (refine hK _ ?_; clear hK K)) | simp only [go_sem, Go.undef] | with_reducible refine wA ?_ | clear hK K)
 refine ACallV.one NC ?_
 repeat (first | (with_reducible first | refine Stp.up ?_ | refine fun (K : AK) hK => ?_ | (refine hK _ ?_; clear hK K)) | simp only [go_sem, Go.undef] | with_reducible refine wA ?_ | clear hK K)
 refine ACallV.one E1 ?_
 repeat (first | (with_reducible first | refine Stp.up ?_ | refine fun (K : AK) hK => ?_ | (refine hK _ ?_; clear hK K)) | simp only [go_sem, Go.undef] | with_reducible refine wA ?_ | clear hK K)
 refine ACallV.one E2 ?_
 repeat (first | (with_reducible first | refine Stp.up ?_ | refine fun (K : AK) hK => ?_ | (refine hK _ ?_; clear hK K)) | simp only [go_sem, Go.undef] | with_reducible refine wA ?_ | clear hK K)
end Go.Proofs.YtfflpdekojlnmaaDoor
