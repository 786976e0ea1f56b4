/- kinescopelaw09: DfaLeast: the walk. -/
import Derived.Test.YtfflpdekojlnmaaDoorLLawDfaL
set_option linter.unusedSimpArgs false
set_option linter.unusedVariables false
namespace Go.Proofs.YtfflpdekojlnmaaDoor
open Go.RowKit

/-! ### two ways to write one choice -/
def chA (x y : Ex) : Ex := .mk 3 ⟨#[]⟩ [y, .mk 6 ⟨#[]⟩ [x]]
def chB (x y : Ex) : Ex := .mk 6 ⟨#[]⟩ [.mk 3 ⟨#[]⟩ [x, y, x]]
theorem lg_three (s : ByteArray) (l : List Ex) (w : List ByteArray) : Lg (.mk 3 s l) w ↔ LgAlt l w := by rw [Lg]; simp
theorem lg_six (s : ByteArray) (l : List Ex) (w : List ByteArray) : Lg (.mk 6 s l) w ↔ w = [] ∨ LgHd l w := by rw [Lg]; simp
theorem ch_lg (x y : Ex) (w : List ByteArray) : Lg (chA x y) w ↔ Lg (chB x y) w := by
 rw [chA, chB, lg_three, lg_six]
 simp only [LgAlt, LgHd, lg_three, lg_six]
 constructor
 ·rintro (h | (h | h) | h)
  ·exact .inr (.inr (.inl h))
  ·exact .inl h
  ·exact .inr (.inl h)
  ·exact h.elim
 ·rintro (h | h | h | h | h)
  ·exact .inr (.inl (.inl h))
  ·exact .inr (.inl (.inr h))
  ·exact .inl h
  ·exact .inr (.inl (.inr h))
  ·exact h.elim
theorem ch_ok {x y : Ex} (hx : x.ok) (hy : y.ok) : (chA x y).ok ∧ (chB x y).ok := by
 have h0 : okT ⟨#[]⟩ := okT_s (Nat.zero_le _)
 exact ⟨⟨h0, hy, ⟨h0, hx, trivial⟩, trivial⟩, ⟨h0, ⟨h0, hx, hy, hx, trivial⟩, trivial⟩⟩
theorem ch_same {x y : Ex} {C D : ADt} (hc : autoM (chA x y) (labX (chA x y)) = .inl C) (hd : autoM (chB x y) (labX (chB x y)) = .inl D) : sameX C D = true := by
 obtain ⟨rc, _, LC, OC⟩ := auto_ok hc
 obtain ⟨rd, _, LD, OD⟩ := auto_ok hd
 obtain ⟨h1, h2⟩ := one_auto (lst_of hc) (lst_of hd) fun w => by
  rw [LC.takes, LD.takes, Bool.eq_iff_iff, exTakes_iff, exTakes_iff, ch_lg]
  exact ⟨fun h => ⟨rd, h.2⟩, fun h => ⟨rc, h.2⟩⟩
 exact sameX_of OC h1 h2
theorem auto_err {x : Ex} {e : Int} (ha : autoM x (labX x) = .inr e) : e ≠ 0 := by
 rw [autoM] at ha
 cases hr : exRight x
 ·rw [hr] at ha; simp at ha; subst ha; decide
 ·rw [hr] at ha
  simp only [if_true] at ha
  split at ha
  ·split at ha
   ·simp at ha; subst ha; decide
   ·cases ha
  ·simp at ha; subst ha; decide
theorem newA_cases (z : Ex) : (∃ e, e ≠ 0 ∧ newA z = .tup [.v (.pointer none), .v (.int .i64 e)]) ∨ ∃ A, autoM z (labX z) = .inl A ∧ newA z = .tup [.vp (autoV A), .v (.int .i64 0)] := by
 cases ha : autoM z (labX z) with
 | inr e => exact .inl ⟨e, auto_err ha, by rw [newA, ha]⟩
 | inl A => exact .inr ⟨A, rfl, by rw [newA, ha]⟩
structure NmI (A : ADt) (s k m : Nat) : Prop where
 at' : nuK A s k = some m
 le : m ≤ A.rows.length
set_option maxRecDepth 100000 in
set_option maxHeartbeats 16000000 in
theorem lawDfaLeast_c (x y : Ex) (kx : x.ok) (ky : y.ok) : Call1 Tryd.prog 3 [.agg (encE x), .agg (encE y)] (.v (.bool true)) := by
 have AW := awake09_c
 have NX := dnew_c x kx
 have NY := dnew_c y ky
 have SX := lsize09_c x 0 (by omega)
 have SY := lsize09_c y 0 (by omega)
 obtain ⟨kc, kd⟩ := ch_ok kx ky
 have NC := dnew_c (chA x y) kc
 have ND := dnew_c (chB x y) kd
 have e60 : ((0 : Nat) : Int) = 0 := rfl
 rw [e60] at SX SY
 have wx : wfR 0 (x.kids.map encE) = true := wf_encE 0 _
 have wy : wfR 0 (y.kids.map encE) = true := wf_encE 0 _
 have O1 := lof09_c 6 [encE x] 1 (by simp only [wfR, wf_encE1, Bool.and_self])
 have O2 := lof09_c 3 [encE y, [.v (.int .i64 6), .v (.string ⟨#[]⟩), .slc 3 [encE x] 1]] 2 (by simp only [wfR, wfL, AV.wf, wf_encE1, Bool.and_self])
 have O3 := lof09_c 3 [encE x, encE y, encE x] 3 (by simp only [wfR, wf_encE1, Bool.and_self])
 have O4 := lof09_c 6 [[.v (.int .i64 3), .v (.string ⟨#[]⟩), .slc 3 [encE x, encE y, encE x] 3]] 1 (by simp only [wfR, wfL, AV.wf, wf_encE1, Bool.and_self])
 obtain ⟨vC, hvC⟩ : ∃ v, v = newA (chA x y) := ⟨_, rfl⟩
 obtain ⟨vD, hvD⟩ : ∃ v, v = newA (chB x y) := ⟨_, rfl⟩
 rw [← hvC] at NC
 rw [← hvD] at ND
 simp only [chA, chB, encE, encEs, List.length_cons, List.length_nil, Nat.reduceAdd] at NC ND
 by_cases hbx : 11 < sX x 0
 ·have hb1 : decide (11 < ((sX x 0 : Nat) : Int)) = true := decide_eq_true (by omega)
  simp only [encE_eq] at *
  (refine Call1.enter Tryd.func3 rfl (by kernel_rfl) (by kernel_rfl) rfl (by first | rfl | (simp only [go_sem, Bool.and_self, Bool.and_true, Bool.true_and])) (by first | rfl | (simp only [go_sem, Bool.and_self, Bool.and_true, Bool.true_and])) ?_; simp only [Tryd.ntmps3, Tryd.results3, List.length_cons, List.length_nil, Nat.reduceAdd, Nat.reduceSub, List.replicate_succ, List.replicate_zero, List.cons_append, List.nil_append])
  repeat (first | (with_reducible first | refine Stp.up ?_ | refine fun (K : AK) hK => ?_ | refine wD ?_ | (refine hK _ ?_; clear hK K)) | simp only [go_sem] | with_reducible refine wA ?_ | clear hK K)
  refine ACallV.one AW ?_
  repeat (first | (with_reducible first | refine Stp.up ?_ | refine fun (K : AK) hK => ?_ | refine wD ?_ | (refine hK _ ?_; clear hK K)) | simp only [go_sem] | with_reducible refine wA ?_ | clear hK K)
  refine ACallV.one SX ?_
  repeat (first | (with_reducible first | refine Stp.up ?_ | refine fun (K : AK) hK => ?_ | refine wD ?_ | (refine hK _ ?_; clear hK K)) | simp only [go_sem, hb1, Go.undef] | with_reducible refine wA ?_ | clear hK K)
 have hb1 : decide (11 < ((sX x 0 : Nat) : Int)) = false := decide_eq_false (by omega)
 by_cases hby : 11 < sX y 0
 ·have hb2 : decide (11 < ((sX y 0 : Nat) : Int)) = true := decide_eq_true (by omega)
  simp only [encE_eq] at *
  (refine Call1.enter Tryd.func3 rfl (by kernel_rfl) (by kernel_rfl) rfl (by first | rfl | (simp only [go_sem, Bool.and_self, Bool.and_true, Bool.true_and])) (by first | rfl | (simp only [go_sem, Bool.and_self, Bool.and_true, Bool.true_and])) ?_; simp only [Tryd.ntmps3, Tryd.results3, List.length_cons, List.length_nil, Nat.reduceAdd, Nat.reduceSub, List.replicate_succ, List.replicate_zero, List.cons_append, List.nil_append])
  repeat (first | (with_reducible first | refine Stp.up ?_ | refine fun (K : AK) hK => ?_ | refine wD ?_ | (refine hK _ ?_; clear hK K)) | simp only [go_sem] | with_reducible refine wA ?_ | clear hK K)
  refine ACallV.one AW ?_
  repeat (first | (with_reducible first | refine Stp.up ?_ | refine fun (K : AK) hK => ?_ | refine wD ?_ | (refine hK _ ?_; clear hK K)) | simp only [go_sem] | with_reducible refine wA ?_ | clear hK K)
  refine ACallV.one SX ?_
  repeat (first | (with_reducible first | refine Stp.up ?_ | refine fun (K : AK) hK => ?_ | refine wD ?_ | (refine hK _ ?_; clear hK K)) | simp only [go_sem, hb1, Go.undef] | with_reducible refine wA ?_ | clear hK K)
  refine ACallV.one SY ?_
  repeat (first | (with_reducible first | refine Stp.up ?_ | refine fun (K : AK) hK => ?_ | refine wD ?_ | (refine hK _ ?_; clear hK K)) | simp only [go_sem, hb2, Go.undef] | with_reducible refine wA ?_ | clear hK K)
 have hb2 : decide (11 < ((sX y 0 : Nat) : Int)) = false := decide_eq_false (by omega)
 rcases newA_cases x with ⟨e, he, hx⟩ | ⟨A, ha, hx⟩
 ·have f1 : (e != 0) = true := by simp [he]
  rw [hx] at NX
  have hy : ∃ p e, newA y = .tup [p, .v (.int .i64 e)] := by
   rcases newA_cases y with ⟨e, _, h⟩ | ⟨B, _, h⟩
   ·exact ⟨_, _, h⟩
   ·exact ⟨_, _, h⟩
  obtain ⟨p, e2, hy⟩ := hy
  rw [hy] at NY
  simp only [encE_eq] at *
  (refine Call1.enter Tryd.func3 rfl (by kernel_rfl) (by kernel_rfl) rfl (by first | rfl | (simp only [go_sem, Bool.and_self, Bool.and_true, Bool.true_and])) (by first | rfl | (simp only [go_sem, Bool.and_self, Bool.and_true, Bool.true_and])) ?_; simp only [Tryd.ntmps3, Tryd.results3, List.length_cons, List.length_nil, Nat.reduceAdd, Nat.reduceSub, List.replicate_succ, List.replicate_zero, List.cons_append, List.nil_append])
  repeat (first | (with_reducible first | refine Stp.up ?_ | refine fun (K : AK) hK => ?_ | refine wD ?_ | (refine hK _ ?_; clear hK K)) | simp only [go_sem] | with_reducible refine wA ?_ | clear hK K)
  refine ACallV.one AW ?_
  repeat (first | (with_reducible first | refine Stp.up ?_ | refine fun (K : AK) hK => ?_ | refine wD ?_ | (refine hK _ ?_; clear hK K)) | simp only [go_sem] | with_reducible refine wA ?_ | clear hK K)
  refine ACallV.one SX ?_
  repeat (first | (with_reducible first | refine Stp.up ?_ | refine fun (K : AK) hK => ?_ | refine wD ?_ | (refine hK _ ?_; clear hK K)) | simp only [go_sem, hb1, Go.undef] | with_reducible refine wA ?_ | clear hK K)
  refine ACallV.one SY ?_
  repeat (first | (with_reducible first | refine Stp.up ?_ | refine fun (K : AK) hK => ?_ | refine wD ?_ | (refine hK _ ?_; clear hK K)) | simp only [go_sem, hb2, Go.undef] | with_reducible refine wA ?_ | clear hK K)
  refine ACallV.one NX ?_
  repeat (first | (with_reducible first | refine Stp.up ?_ | refine fun (K : AK) hK => ?_ | refine wD ?_ | (refine hK _ ?_; clear hK K)) | simp only [go_sem, Go.undef] | with_reducible refine wA ?_ | clear hK K)
  refine ACallV.one NY ?_
  repeat (first | (with_reducible first | refine Stp.up ?_ | refine fun (K : AK) hK => ?_ | refine wD ?_ | (refine hK _ ?_; clear hK K)) | simp only [go_sem, f1, Go.undef] | with_reducible refine wA ?_ | clear hK K)
 rw [hx] at NX
 rcases newA_cases y with ⟨e, he, hy⟩ | ⟨B, hb, hy⟩
 ·have f1 : (e != 0) = true := by simp [he]
  rw [hy] at NY
  have wfA := wf_autoV 0 A
  generalize autoV A = vA at *
  simp only [encE_eq] at *
  (refine Call1.enter Tryd.func3 rfl (by kernel_rfl) (by kernel_rfl) rfl (by first | rfl | (simp only [go_sem, Bool.and_self, Bool.and_true, Bool.true_and])) (by first | rfl | (simp only [go_sem, Bool.and_self, Bool.and_true, Bool.true_and])) ?_; simp only [Tryd.ntmps3, Tryd.results3, List.length_cons, List.length_nil, Nat.reduceAdd, Nat.reduceSub, List.replicate_succ, List.replicate_zero, List.cons_append, List.nil_append])
  repeat (first | (with_reducible first | refine Stp.up ?_ | refine fun (K : AK) hK => ?_ | refine wD ?_ | (refine hK _ ?_; clear hK K)) | simp only [go_sem] | with_reducible refine wA ?_ | clear hK K)
  refine ACallV.one AW ?_
  repeat (first | (with_reducible first | refine Stp.up ?_ | refine fun (K : AK) hK => ?_ | refine wD ?_ | (refine hK _ ?_; clear hK K)) | simp only [go_sem] | with_reducible refine wA ?_ | clear hK K)
  refine ACallV.one SX ?_
  repeat (first | (with_reducible first | refine Stp.up ?_ | refine fun (K : AK) hK => ?_ | refine wD ?_ | (refine hK _ ?_; clear hK K)) | simp only [go_sem, hb1, Go.undef] | with_reducible refine wA ?_ | clear hK K)
  refine ACallV.one SY ?_
  repeat (first | (with_reducible first | refine Stp.up ?_ | refine fun (K : AK) hK => ?_ | refine wD ?_ | (refine hK _ ?_; clear hK K)) | simp only [go_sem, hb2, Go.undef] | with_reducible refine wA ?_ | clear hK K)
  refine ACallV.one NX ?_
  repeat (first | (with_reducible first | refine Stp.up ?_ | refine fun (K : AK) hK => ?_ | refine wD ?_ | (refine hK _ ?_; clear hK K)) | simp only [go_sem, Go.undef] | with_reducible refine wA ?_ | clear hK K)
  refine ACallV.one NY ?_
  repeat (first | (with_reducible first | refine Stp.up ?_ | refine fun (K : AK) hK => ?_ | refine wD ?_ | (refine hK _ ?_; clear hK K)) | simp only [go_sem, f1, Go.undef] | with_reducible refine wA ?_ | clear hK K)
 rw [hy] at NY
 obtain ⟨_, _, LA, OA⟩ := auto_ok ha
 obtain ⟨_, _, LB, OB⟩ := auto_ok hb
 have TA := lst_of ha
 have hmax := OA.max
 have hfew := OA.few
 have hpos := OA.pos
 have CP := apart_c OA TA
 have CZ := dlen_c A
 have CL := dlabels_c A (by omega)
 have CS := fun (s : Int) l => dstep_c A s l
 have stE : ∀ (s : Nat) l, s < A.rows.length → stepX A s l = look (A.rows.getD s []) l := fun s l hs => by
  rw [stepX, if_pos ⟨by omega, by omega⟩, Int.toNat_natCast]
 have SAA := dsame_c OA OA
 rw [sameX_of OA rfl rfl] at SAA
 have SAB := dsame_c OA OB
 have SBA := dsame_c OB OA
 rw [sameX_symm OB OA] at SBA
 have fS : (sameX A B == sameX A B) = true := by simp
 have hcd : (∃ p e, newA (chA x y) = .tup [p, .v (.int .i64 e)] ∧ ∃ q e', newA (chB x y) = .tup [q, .v (.int .i64 e')] ∧ (e ≠ 0 ∨ (e = 0 ∧ e' ≠ 0))) ∨ ∃ C D, newA (chA x y) = .tup [.vp (autoV C), .v (.int .i64 0)] ∧ newA (chB x y) = .tup [.vp (autoV D), .v (.int .i64 0)] ∧ LOk C ∧ LOk D ∧ sameX C D = true := by
  rcases newA_cases (chA x y) with ⟨e, he, h1⟩ | ⟨C, hc, h1⟩ <;> rcases newA_cases (chB x y) with ⟨e', he', h2⟩ | ⟨D, hd, h2⟩
  ·exact .inl ⟨_, _, h1, _, _, h2, .inl he⟩
  ·exact .inl ⟨_, _, h1, _, _, h2, .inl he⟩
  ·exact .inl ⟨_, _, h1, _, _, h2, .inr ⟨rfl, he'⟩⟩
  ·exact .inr ⟨C, D, h1, h2, (auto_ok hc).2.2.2, (auto_ok hd).2.2.2, ch_same hc hd⟩
 generalize hnn : A.rows.length = n at *
 have wfA := wf_autoV 0 A
 have wfB := wf_autoV 0 B
 simp only [strsA] at CL
 simp only [encE_eq] at *
 (refine Call1.enter Tryd.func3 rfl (by kernel_rfl) (by kernel_rfl) rfl (by first | rfl | (simp only [go_sem, Bool.and_self, Bool.and_true, Bool.true_and])) (by first | rfl | (simp only [go_sem, Bool.and_self, Bool.and_true, Bool.true_and])) ?_; simp only [Tryd.ntmps3, Tryd.results3, List.length_cons, List.length_nil, Nat.reduceAdd, Nat.reduceSub, List.replicate_succ, List.replicate_zero, List.cons_append, List.nil_append])
 repeat (first | (with_reducible first | refine Stp.up ?_ | refine fun (K : AK) hK => ?_ | refine wD ?_ | (refine hK _ ?_; clear hK K)) | simp only [go_sem] | with_reducible refine wA ?_ | clear hK K)
 refine ACallV.one AW ?_
 repeat (first | (with_reducible first | refine Stp.up ?_ | refine fun (K : AK) hK => ?_ | refine wD ?_ | (refine hK _ ?_; clear hK K)) | simp only [go_sem] | with_reducible refine wA ?_ | clear hK K)
 refine ACallV.one SX ?_
 repeat (first | (with_reducible first | refine Stp.up ?_ | refine fun (K : AK) hK => ?_ | refine wD ?_ | (refine hK _ ?_; clear hK K)) | simp only [go_sem, hb1, Go.undef] | with_reducible refine wA ?_ | clear hK K)
 refine ACallV.one SY ?_
 repeat (first | (with_reducible first | refine Stp.up ?_ | refine fun (K : AK) hK => ?_ | refine wD ?_ | (refine hK _ ?_; clear hK K)) | simp only [go_sem, hb2, Go.undef] | with_reducible refine wA ?_ | clear hK K)
 refine ACallV.one NX ?_
 repeat (first | (with_reducible first | refine Stp.up ?_ | refine fun (K : AK) hK => ?_ | refine wD ?_ | (refine hK _ ?_; clear hK K)) | simp only [go_sem, Go.undef] | with_reducible refine wA ?_ | clear hK K)
 refine ACallV.one NY ?_
 repeat (first | (with_reducible first | refine Stp.up ?_ | refine fun (K : AK) hK => ?_ | refine wD ?_ | (refine hK _ ?_; clear hK K)) | simp only [go_sem, Go.undef] | with_reducible refine wA ?_ | clear hK K)
 refine ACallV.one CP ?_
 repeat (first | (with_reducible first | refine Stp.up ?_ | refine fun (K : AK) hK => ?_ | refine wD ?_ | (refine hK _ ?_; clear hK K)) | simp only [go_sem] | with_reducible refine wA ?_ | clear hK K)
 refine awp_loopK (ι := Nat) 22 (fun i => [(10, .v (.int .i64 i)), (11, .undef)]) (fun i => n - i) (fun i => i ≤ n) 0 (Nat.zero_le _) ?_ ?_
 ·(refine wk_mk ?_ ?_ ?_ <;> simp only [frm, List.foldl_cons, List.foldl_nil, List.replicate_succ, List.replicate_zero, WkT, WkO, AV.v.injEq, Value.int.injEq, Value.bool.injEq, Value.string.injEq, AV.vec.injEq, AV.ptr.injEq, true_or, or_true, false_or, or_false, AObj.mk.injEq, forall_eq_apply_imp_iff, forall_eq, forall_eq', go_sem])
  all_goals rfl
 ·intro i hi K hK
  have eW := wrap_succ (k := i) (by omega)
  repeat (first | (with_reducible first | refine Stp.up ?_ | refine fun (K : AK) hK => ?_ | refine wD ?_ | (refine hK _ ?_; clear hK K)) | simp only [go_sem] | with_reducible refine wA ?_ | clear hK K)
  refine ACallV.one CZ ?_
  repeat (first | (with_reducible first | refine Stp.up ?_ | refine fun (K : AK) hK => ?_ | refine wD ?_ | (refine hK _ ?_; clear hK K)) | simp only [go_sem] | with_reducible refine wA ?_ | clear hK K)
  refine AIf.part (fun g => ?_) (fun g => ?_)
  ·have hlt : i < n := by (try simp only [bne_iff_ne, ne_eq, bne_eq_false_iff_eq, beq_iff_eq, beq_eq_false_iff_ne, decide_eq_true_eq, decide_eq_false_iff_not, Bool.not_eq_eq_eq_not, Int.natCast_inj, Int.ofNat_lt, Int.ofNat_le] at g); omega
   repeat (first | (with_reducible first | refine Stp.up ?_ | refine fun (K : AK) hK => ?_ | refine wD ?_ | (refine hK _ ?_; clear hK K)) | simp only [go_sem] | with_reducible refine wA ?_ | clear hK K)
   refine awp_loopK (ι := Nat) 22 (fun k => [(11, .v (.int .i64 k))]) (fun k => n - k) (fun k => k ≤ n) 0 (Nat.zero_le _) ?_ ?_
   ·(refine wk_mk ?_ ?_ ?_ <;> simp only [frm, List.foldl_cons, List.foldl_nil, List.replicate_succ, List.replicate_zero, WkT, WkO, AV.v.injEq, Value.int.injEq, Value.bool.injEq, Value.string.injEq, AV.vec.injEq, AV.ptr.injEq, true_or, or_true, false_or, or_false, AObj.mk.injEq, forall_eq_apply_imp_iff, forall_eq, forall_eq', go_sem])
    all_goals rfl
   ·intro k hk K hK
    have eW2 := wrap_succ (k := k) (by omega)
    repeat (first | (with_reducible first | refine Stp.up ?_ | refine fun (K : AK) hK => ?_ | refine wD ?_ | (refine hK _ ?_; clear hK K)) | simp only [go_sem] | with_reducible refine wA ?_ | clear hK K)
    refine ACallV.one CZ ?_
    repeat (first | (with_reducible first | refine Stp.up ?_ | refine fun (K : AK) hK => ?_ | refine wD ?_ | (refine hK _ ?_; clear hK K)) | simp only [go_sem] | with_reducible refine wA ?_ | clear hK K)
    refine AIf.part (fun g2 => ?_) (fun g2 => ?_)
    ·have hkt : k < n := by (try simp only [bne_iff_ne, ne_eq, bne_eq_false_iff_eq, beq_iff_eq, beq_eq_false_iff_ne, decide_eq_true_eq, decide_eq_false_iff_not, Bool.not_eq_eq_eq_not, Int.natCast_inj, Int.ofNat_lt, Int.ofNat_le] at g2); omega
     have eM := mxB_at (f := fun i k => decide (i ≠ k)) hlt
     have eR := rwB_at (g := fun k => decide (i ≠ k)) hkt
     have eN : (decide (i ≠ k) == ((i : Int) != (k : Int))) = true := by
      rw [beq_iff_eq, Bool.eq_iff_iff]
      simp [Int.natCast_inj]
     have eN2 : (decide (i ≠ k) == !((i : Int) == (k : Int))) = true := eN
     repeat (first | (with_reducible first | refine Stp.up ?_ | refine fun (K : AK) hK => ?_ | refine wD ?_ | (refine hK _ ?_; clear hK K)) | simp only [go_sem, g2, g, eM, eR, eN, eN2] | with_reducible refine wA ?_ | clear hK K)
     repeat (first | (with_reducible first | refine Stp.up ?_ | refine fun (K : AK) hK => ?_ | refine wD ?_ | (refine hK _ ?_; clear hK K)) | simp only [go_sem, eW2] | with_reducible refine wA ?_ | clear hK K)
     exact LNext.mk (k + 1) (by omega) (by omega) (by (refine wk_mk ?_ ?_ ?_ <;> simp only [frm, List.foldl_cons, List.foldl_nil, List.replicate_succ, List.replicate_zero, WkT, WkO, AV.v.injEq, Value.int.injEq, Value.bool.injEq, Value.string.injEq, AV.vec.injEq, AV.ptr.injEq, true_or, or_true, false_or, or_false, AObj.mk.injEq, forall_eq_apply_imp_iff, forall_eq, forall_eq', go_sem]))
    ·repeat (first | (with_reducible first | refine Stp.up ?_ | refine fun (K : AK) hK => ?_ | refine wD ?_ | (refine hK _ ?_; clear hK K)) | simp only [go_sem, eW] | with_reducible refine wA ?_ | clear hK K)
     exact LNext.mk (i + 1) (by omega) (by omega) (by (refine wk_mk ?_ ?_ ?_ <;> simp only [frm, List.foldl_cons, List.foldl_nil, List.replicate_succ, List.replicate_zero, WkT, WkO, AV.v.injEq, Value.int.injEq, Value.bool.injEq, Value.string.injEq, AV.vec.injEq, AV.ptr.injEq, true_or, or_true, false_or, or_false, AObj.mk.injEq, forall_eq_apply_imp_iff, forall_eq, forall_eq', go_sem]))
  ·repeat (first | (with_reducible first | refine Stp.up ?_ | refine fun (K : AK) hK => ?_ | refine wD ?_ | (refine hK _ ?_; clear hK K)) | simp only [go_sem] | with_reducible refine wA ?_ | clear hK K)
   refine ACallV.one CL ?_
   repeat (first | (with_reducible first | refine Stp.up ?_ | refine fun (K : AK) hK => ?_ | refine wD ?_ | (refine hK _ ?_; clear hK K)) | simp only [go_sem] | with_reducible refine wA ?_ | clear hK K)
   have hN0 : NmI A 0 0 1 := ⟨by rw [nuK_zero, List.take_zero]; rfl, by rw [hnn]; omega⟩
   refine awp_loopK (ι := Nat × Nat) 22 (fun y => [(12, .v (.int .i64 y.2)), (14, .v (.int .i64 y.1)), (15, .undef), (16, .undef), (17, .undef)]) (fun y => n - y.1) (fun y => y.1 ≤ n ∧ NmI A y.1 0 y.2) (0, 1) ⟨Nat.zero_le _, hN0⟩ ?_ ?_
   ·(refine wk_mk ?_ ?_ ?_ <;> simp only [frm, List.foldl_cons, List.foldl_nil, List.replicate_succ, List.replicate_zero, WkT, WkO, AV.v.injEq, Value.int.injEq, Value.bool.injEq, Value.string.injEq, AV.vec.injEq, AV.ptr.injEq, true_or, or_true, false_or, or_false, AObj.mk.injEq, forall_eq_apply_imp_iff, forall_eq, forall_eq', go_sem])
    all_goals first | rfl | simp
   ·rintro ⟨s, m⟩ ⟨hs, h1⟩ K hK
    simp only at hs h1
    have eW := wrap_succ (k := s) (by omega)
    repeat (first | (with_reducible first | refine Stp.up ?_ | refine fun (K : AK) hK => ?_ | refine wD ?_ | (refine hK _ ?_; clear hK K)) | simp only [go_sem] | with_reducible refine wA ?_ | clear hK K)
    refine ACallV.one CZ ?_
    repeat (first | (with_reducible first | refine Stp.up ?_ | refine fun (K : AK) hK => ?_ | refine wD ?_ | (refine hK _ ?_; clear hK K)) | simp only [go_sem] | with_reducible refine wA ?_ | clear hK K)
    refine AIf.part (fun g => ?_) (fun g => ?_)
    ·have hlt : s < n := by (try simp only [bne_iff_ne, ne_eq, bne_eq_false_iff_eq, beq_iff_eq, beq_eq_false_iff_ne, decide_eq_true_eq, decide_eq_false_iff_not, Bool.not_eq_eq_eq_not, Int.natCast_inj, Int.ofNat_lt, Int.ofNat_le] at g); omega
     repeat (first | (with_reducible first | refine Stp.up ?_ | refine fun (K : AK) hK => ?_ | refine wD ?_ | (refine hK _ ?_; clear hK K)) | simp only [go_sem] | with_reducible refine wA ?_ | clear hK K)
     refine awp_loopK (ι := Nat × Nat) 22 (fun y => [(12, .v (.int .i64 y.2)), (15, .v (.int .i64 y.1)), (16, .undef), (17, .undef)]) (fun y => A.labs.length - y.1) (fun y => y.1 ≤ A.labs.length ∧ NmI A s y.1 y.2) (0, m) ⟨Nat.zero_le _, h1⟩ ?_ ?_
     ·(refine wk_mk ?_ ?_ ?_ <;> simp only [frm, List.foldl_cons, List.foldl_nil, List.replicate_succ, List.replicate_zero, WkT, WkO, AV.v.injEq, Value.int.injEq, Value.bool.injEq, Value.string.injEq, AV.vec.injEq, AV.ptr.injEq, true_or, or_true, false_or, or_false, AObj.mk.injEq, forall_eq_apply_imp_iff, forall_eq, forall_eq', go_sem])
      all_goals first | rfl | simp
     ·rintro ⟨k, m⟩ ⟨hk, h2⟩ K hK
      simp only at hk h2
      have eW2 := wrap_succ (k := k) (by omega)
      have hm := h2.le
      rw [hnn] at hm
      have eW3 := wrap_succ (k := m) (by omega)
      repeat (first | (with_reducible first | refine Stp.up ?_ | refine fun (K : AK) hK => ?_ | refine wD ?_ | (refine hK _ ?_; clear hK K)) | simp only [go_sem] | with_reducible refine wA ?_ | clear hK K)
      refine AIf.part (fun g2 => ?_) (fun g2 => ?_)
      ·have hkt : k < A.labs.length := by (try simp only [bne_iff_ne, ne_eq, bne_eq_false_iff_eq, beq_iff_eq, beq_eq_false_iff_ne, decide_eq_true_eq, decide_eq_false_iff_not, Bool.not_eq_eq_eq_not, Int.natCast_inj, Int.ofNat_lt, Int.ofNat_le] at g2); omega
       have eG := getD_map encS A.labs k [] hkt
       have eLk : A.labs.getD k ⟨#[]⟩ = A.labs[k] := by rw [List.getD_eq_getElem?_getD, List.getElem?_eq_getElem hkt]; rfl
       have CSk := CS s A.labs[k]
       rw [stE s _ hlt] at CSk
       have hnx := nuK_succ A (s := s) hkt
       obtain ⟨m', hm'⟩ := nuK_some OA TA.num (s := s) (k := k + 1) (by rw [hnn]; exact hlt) hkt
       rw [hm', h2.at', eLk] at hnx
       unfold nuS at hnx
       simp only [encS] at eG
       cases hl : look (A.rows.getD s []) A.labs[k] with
       | none =>
        rw [hl] at CSk hnx
        simp only [stepT, Option.getD_none, Option.isSome_none, Option.some.injEq] at CSk hnx
        repeat (first | (with_reducible first | refine Stp.up ?_ | refine fun (K : AK) hK => ?_ | refine wD ?_ | (refine hK _ ?_; clear hK K)) | simp only [go_sem, eG, g2] | with_reducible refine wA ?_ | clear hK K)
        refine ACallV.one CSk ?_
        repeat (first | (with_reducible first | refine Stp.up ?_ | refine fun (K : AK) hK => ?_ | refine wD ?_ | (refine hK _ ?_; clear hK K)) | simp only [go_sem, Go.undef] | with_reducible refine wA ?_ | clear hK K)
        repeat (first | (with_reducible first | refine Stp.up ?_ | refine fun (K : AK) hK => ?_ | refine wD ?_ | (refine hK _ ?_; clear hK K)) | simp only [go_sem, eW2] | with_reducible refine wA ?_ | clear hK K)
        exact LNext.mk (k + 1, m) ⟨hkt, ⟨by rw [hm', hnx], h2.le⟩⟩ (by show A.labs.length - (k + 1) < A.labs.length - k; omega) (by (refine wk_mk ?_ ?_ ?_ <;> simp only [frm, List.foldl_cons, List.foldl_nil, List.replicate_succ, List.replicate_zero, WkT, WkO, AV.v.injEq, Value.int.injEq, Value.bool.injEq, Value.string.injEq, AV.vec.injEq, AV.ptr.injEq, true_or, or_true, false_or, or_false, AObj.mk.injEq, forall_eq_apply_imp_iff, forall_eq, forall_eq', go_sem]))
       | some t =>
        rw [hl] at CSk hnx
        simp only [stepT, Option.getD_some, Option.isSome_some] at CSk hnx
        have htn : t < n := by rw [← hnn]; exact (OA.row _ (getD_mem (d := []) (by rw [hnn]; exact hlt))).2 _ (look_mem hl)
        rw [nuI] at hnx
        have hle : ¬ m < t := fun q => by rw [if_pos q] at hnx; cases hnx
        rw [if_neg hle] at hnx
        have d1 : decide ((m : Int) < (t : Int)) = false := decide_eq_false (by omega)
        by_cases htm : t = m
        ·rw [if_pos htm] at hnx
         have d2 : ((t : Int) == (m : Int)) = true := by simp [htm]
         repeat (first | (with_reducible first | refine Stp.up ?_ | refine fun (K : AK) hK => ?_ | refine wD ?_ | (refine hK _ ?_; clear hK K)) | simp only [go_sem, eG, g2] | with_reducible refine wA ?_ | clear hK K)
         refine ACallV.one CSk ?_
         repeat (first | (with_reducible first | refine Stp.up ?_ | refine fun (K : AK) hK => ?_ | refine wD ?_ | (refine hK _ ?_; clear hK K)) | simp only [go_sem, d1, d2, Go.undef] | with_reducible refine wA ?_ | clear hK K)
         repeat (first | (with_reducible first | refine Stp.up ?_ | refine fun (K : AK) hK => ?_ | refine wD ?_ | (refine hK _ ?_; clear hK K)) | simp only [go_sem, eW3, eW2] | with_reducible refine wA ?_ | clear hK K)
         exact LNext.mk (k + 1, m + 1) ⟨hkt, ⟨by rw [hm', hnx], by rw [hnn]; omega⟩⟩ (by show A.labs.length - (k + 1) < A.labs.length - k; omega) (by (refine wk_mk ?_ ?_ ?_ <;> simp only [frm, List.foldl_cons, List.foldl_nil, List.replicate_succ, List.replicate_zero, WkT, WkO, AV.v.injEq, Value.int.injEq, Value.bool.injEq, Value.string.injEq, AV.vec.injEq, AV.ptr.injEq, true_or, or_true, false_or, or_false, AObj.mk.injEq, forall_eq_apply_imp_iff, forall_eq, forall_eq', go_sem]))
        ·rw [if_neg htm] at hnx
         have d2 : ((t : Int) == (m : Int)) = false := by simp [Int.natCast_inj, htm]
         repeat (first | (with_reducible first | refine Stp.up ?_ | refine fun (K : AK) hK => ?_ | refine wD ?_ | (refine hK _ ?_; clear hK K)) | simp only [go_sem, eG, g2] | with_reducible refine wA ?_ | clear hK K)
         refine ACallV.one CSk ?_
         repeat (first | (with_reducible first | refine Stp.up ?_ | refine fun (K : AK) hK => ?_ | refine wD ?_ | (refine hK _ ?_; clear hK K)) | simp only [go_sem, d1, d2, Go.undef] | with_reducible refine wA ?_ | clear hK K)
         repeat (first | (with_reducible first | refine Stp.up ?_ | refine fun (K : AK) hK => ?_ | refine wD ?_ | (refine hK _ ?_; clear hK K)) | simp only [go_sem, eW2] | with_reducible refine wA ?_ | clear hK K)
         exact LNext.mk (k + 1, m) ⟨hkt, ⟨by rw [hm', hnx], h2.le⟩⟩ (by show A.labs.length - (k + 1) < A.labs.length - k; omega) (by (refine wk_mk ?_ ?_ ?_ <;> simp only [frm, List.foldl_cons, List.foldl_nil, List.replicate_succ, List.replicate_zero, WkT, WkO, AV.v.injEq, Value.int.injEq, Value.bool.injEq, Value.string.injEq, AV.vec.injEq, AV.ptr.injEq, true_or, or_true, false_or, or_false, AObj.mk.injEq, forall_eq_apply_imp_iff, forall_eq, forall_eq', go_sem]))
      ·have hkn : k = A.labs.length := by (try simp only [bne_iff_ne, ne_eq, bne_eq_false_iff_eq, beq_iff_eq, beq_eq_false_iff_ne, decide_eq_true_eq, decide_eq_false_iff_not, Bool.not_eq_eq_eq_not, Int.natCast_inj, Int.ofNat_lt, Int.ofNat_le] at g2); omega
       have h3 : NmI A (s + 1) 0 m := ⟨by rw [← nuK_all OA (by rw [hnn]; exact hlt), ← hkn]; exact h2.at', h2.le⟩
       repeat (first | (with_reducible first | refine Stp.up ?_ | refine fun (K : AK) hK => ?_ | refine wD ?_ | (refine hK _ ?_; clear hK K)) | simp only [go_sem, eW] | with_reducible refine wA ?_ | clear hK K)
       exact LNext.mk (s + 1, m) ⟨hlt, h3⟩ (by show n - (s + 1) < n - s; omega) (by (refine wk_mk ?_ ?_ ?_ <;> simp only [frm, List.foldl_cons, List.foldl_nil, List.replicate_succ, List.replicate_zero, WkT, WkO, AV.v.injEq, Value.int.injEq, Value.bool.injEq, Value.string.injEq, AV.vec.injEq, AV.ptr.injEq, true_or, or_true, false_or, or_false, AObj.mk.injEq, forall_eq_apply_imp_iff, forall_eq, forall_eq', go_sem]))
    ·have hsn : s = n := by (try simp only [bne_iff_ne, ne_eq, bne_eq_false_iff_eq, beq_iff_eq, beq_eq_false_iff_ne, decide_eq_true_eq, decide_eq_false_iff_not, Bool.not_eq_eq_eq_not, Int.natCast_inj, Int.ofNat_lt, Int.ofNat_le] at g); omega
     have hmn : m = n := by
      have := h1.at'
      rw [nuK_zero, hsn, ← hnn, List.take_length, TA.num.all, Option.some.injEq] at this
      omega
     have d1 : ((m : Int) == (n : Int)) = true := by simp [hmn]
     rcases hcd with ⟨p, e, h1, q, e', h2, he⟩ | ⟨C, D, h1, h2, kC, kD, hs2⟩
     ·rw [hvC, h1] at NC
      rw [hvD, h2] at ND
      rcases he with he | ⟨he, he'⟩
      ·have f1 : (e != 0) = true := by simp [he]
       repeat (first | (with_reducible first | refine Stp.up ?_ | refine fun (K : AK) hK => ?_ | refine wD ?_ | (refine hK _ ?_; clear hK K)) | simp only [go_sem] | with_reducible refine wA ?_ | clear hK K)
       refine ACallS.one O1 ?_
       repeat (first | (with_reducible first | refine Stp.up ?_ | refine fun (K : AK) hK => ?_ | refine wD ?_ | (refine hK _ ?_; clear hK K)) | simp only [go_sem] | with_reducible refine wA ?_ | clear hK K)
       refine ACallS.one O2 ?_
       repeat (first | (with_reducible first | refine Stp.up ?_ | refine fun (K : AK) hK => ?_ | refine wD ?_ | (refine hK _ ?_; clear hK K)) | simp only [go_sem] | with_reducible refine wA ?_ | clear hK K)
       refine ACallS.one NC ?_
       repeat (first | (with_reducible first | refine Stp.up ?_ | refine fun (K : AK) hK => ?_ | refine wD ?_ | (refine hK _ ?_; clear hK K)) | simp only [go_sem] | with_reducible refine wA ?_ | clear hK K)
       refine ACallV.give O3 rfl (by simp only [go_sem, Nat.reduceLT, Nat.reduceLeDiff, Nat.reduceEqDiff, Nat.lt_add_one, Nat.zero_lt_one, and_self]) ?_
       repeat (first | (with_reducible first | refine Stp.up ?_ | refine fun (K : AK) hK => ?_ | refine wD ?_ | (refine hK _ ?_; clear hK K)) | simp only [go_sem] | with_reducible refine wA ?_ | clear hK K)
       refine ACallV.give O4 rfl (by simp only [go_sem, Nat.reduceLT, Nat.reduceLeDiff, Nat.reduceEqDiff, Nat.lt_add_one, Nat.zero_lt_one, and_self]) ?_
       repeat (first | (with_reducible first | refine Stp.up ?_ | refine fun (K : AK) hK => ?_ | refine wD ?_ | (refine hK _ ?_; clear hK K)) | simp only [go_sem] | with_reducible refine wA ?_ | clear hK K)
       refine ACallV.one ND ?_
       repeat (first | (with_reducible first | refine Stp.up ?_ | refine fun (K : AK) hK => ?_ | refine wD ?_ | (refine hK _ ?_; clear hK K)) | simp only [go_sem, Go.undef] | with_reducible refine wA ?_ | clear hK K)
       refine ACallV.one CZ ?_
       repeat (first | (with_reducible first | refine Stp.up ?_ | refine fun (K : AK) hK => ?_ | refine wD ?_ | (refine hK _ ?_; clear hK K)) | simp only [go_sem, d1, f1, Go.undef] | with_reducible refine wA ?_ | clear hK K)
       refine ACallV.one SAA ?_
       repeat (first | (with_reducible first | refine Stp.up ?_ | refine fun (K : AK) hK => ?_ | refine wD ?_ | (refine hK _ ?_; clear hK K)) | simp only [go_sem, Go.undef] | with_reducible refine wA ?_ | clear hK K)
       refine ACallV.one SAB ?_
       repeat (first | (with_reducible first | refine Stp.up ?_ | refine fun (K : AK) hK => ?_ | refine wD ?_ | (refine hK _ ?_; clear hK K)) | simp only [go_sem, Go.undef] | with_reducible refine wA ?_ | clear hK K)
       refine ACallV.one SBA ?_
       repeat (first | (with_reducible first | refine Stp.up ?_ | refine fun (K : AK) hK => ?_ | refine wD ?_ | (refine hK _ ?_; clear hK K)) | simp only [go_sem, fS, Go.undef] | with_reducible refine wA ?_ | clear hK K)
      ·subst he
       have f1 : (e' != 0) = true := by simp [he']
       repeat (first | (with_reducible first | refine Stp.up ?_ | refine fun (K : AK) hK => ?_ | refine wD ?_ | (refine hK _ ?_; clear hK K)) | simp only [go_sem] | with_reducible refine wA ?_ | clear hK K)
       refine ACallS.one O1 ?_
       repeat (first | (with_reducible first | refine Stp.up ?_ | refine fun (K : AK) hK => ?_ | refine wD ?_ | (refine hK _ ?_; clear hK K)) | simp only [go_sem] | with_reducible refine wA ?_ | clear hK K)
       refine ACallS.one O2 ?_
       repeat (first | (with_reducible first | refine Stp.up ?_ | refine fun (K : AK) hK => ?_ | refine wD ?_ | (refine hK _ ?_; clear hK K)) | simp only [go_sem] | with_reducible refine wA ?_ | clear hK K)
       refine ACallS.one NC ?_
       repeat (first | (with_reducible first | refine Stp.up ?_ | refine fun (K : AK) hK => ?_ | refine wD ?_ | (refine hK _ ?_; clear hK K)) | simp only [go_sem] | with_reducible refine wA ?_ | clear hK K)
       refine ACallV.give O3 rfl (by simp only [go_sem, Nat.reduceLT, Nat.reduceLeDiff, Nat.reduceEqDiff, Nat.lt_add_one, Nat.zero_lt_one, and_self]) ?_
       repeat (first | (with_reducible first | refine Stp.up ?_ | refine fun (K : AK) hK => ?_ | refine wD ?_ | (refine hK _ ?_; clear hK K)) | simp only [go_sem] | with_reducible refine wA ?_ | clear hK K)
       refine ACallV.give O4 rfl (by simp only [go_sem, Nat.reduceLT, Nat.reduceLeDiff, Nat.reduceEqDiff, Nat.lt_add_one, Nat.zero_lt_one, and_self]) ?_
       repeat (first | (with_reducible first | refine Stp.up ?_ | refine fun (K : AK) hK => ?_ | refine wD ?_ | (refine hK _ ?_; clear hK K)) | simp only [go_sem] | with_reducible refine wA ?_ | clear hK K)
       refine ACallV.one ND ?_
       repeat (first | (with_reducible first | refine Stp.up ?_ | refine fun (K : AK) hK => ?_ | refine wD ?_ | (refine hK _ ?_; clear hK K)) | simp only [go_sem, Go.undef] | with_reducible refine wA ?_ | clear hK K)
       refine ACallV.one CZ ?_
       repeat (first | (with_reducible first | refine Stp.up ?_ | refine fun (K : AK) hK => ?_ | refine wD ?_ | (refine hK _ ?_; clear hK K)) | simp only [go_sem, d1, f1, Go.undef] | with_reducible refine wA ?_ | clear hK K)
       refine ACallV.one SAA ?_
       repeat (first | (with_reducible first | refine Stp.up ?_ | refine fun (K : AK) hK => ?_ | refine wD ?_ | (refine hK _ ?_; clear hK K)) | simp only [go_sem, Go.undef] | with_reducible refine wA ?_ | clear hK K)
       refine ACallV.one SAB ?_
       repeat (first | (with_reducible first | refine Stp.up ?_ | refine fun (K : AK) hK => ?_ | refine wD ?_ | (refine hK _ ?_; clear hK K)) | simp only [go_sem, Go.undef] | with_reducible refine wA ?_ | clear hK K)
       refine ACallV.one SBA ?_
       repeat (first | (with_reducible first | refine Stp.up ?_ | refine fun (K : AK) hK => ?_ | refine wD ?_ | (refine hK _ ?_; clear hK K)) | simp only [go_sem, fS, Go.undef] | with_reducible refine wA ?_ | clear hK K)
     ·rw [hvC, h1] at NC
      rw [hvD, h2] at ND
      have SCD := dsame_c kC kD
      rw [hs2] at SCD
      have wfC := wf_autoV 0 C
      have wfD := wf_autoV 0 D
      repeat (first | (with_reducible first | refine Stp.up ?_ | refine fun (K : AK) hK => ?_ | refine wD ?_ | (refine hK _ ?_; clear hK K)) | simp only [go_sem] | with_reducible refine wA ?_ | clear hK K)
      refine ACallS.one O1 ?_
      repeat (first | (with_reducible first | refine Stp.up ?_ | refine fun (K : AK) hK => ?_ | refine wD ?_ | (refine hK _ ?_; clear hK K)) | simp only [go_sem] | with_reducible refine wA ?_ | clear hK K)
      refine ACallS.one O2 ?_
      repeat (first | (with_reducible first | refine Stp.up ?_ | refine fun (K : AK) hK => ?_ | refine wD ?_ | (refine hK _ ?_; clear hK K)) | simp only [go_sem] | with_reducible refine wA ?_ | clear hK K)
      refine ACallS.one NC ?_
      repeat (first | (with_reducible first | refine Stp.up ?_ | refine fun (K : AK) hK => ?_ | refine wD ?_ | (refine hK _ ?_; clear hK K)) | simp only [go_sem] | with_reducible refine wA ?_ | clear hK K)
      refine ACallV.give O3 rfl (by simp only [go_sem, Nat.reduceLT, Nat.reduceLeDiff, Nat.reduceEqDiff, Nat.lt_add_one, Nat.zero_lt_one, and_self]) ?_
      repeat (first | (with_reducible first | refine Stp.up ?_ | refine fun (K : AK) hK => ?_ | refine wD ?_ | (refine hK _ ?_; clear hK K)) | simp only [go_sem] | with_reducible refine wA ?_ | clear hK K)
      refine ACallV.give O4 rfl (by simp only [go_sem, Nat.reduceLT, Nat.reduceLeDiff, Nat.reduceEqDiff, Nat.lt_add_one, Nat.zero_lt_one, and_self]) ?_
      repeat (first | (with_reducible first | refine Stp.up ?_ | refine fun (K : AK) hK => ?_ | refine wD ?_ | (refine hK _ ?_; clear hK K)) | simp only [go_sem] | with_reducible refine wA ?_ | clear hK K)
      refine ACallV.one ND ?_
      repeat (first | (with_reducible first | refine Stp.up ?_ | refine fun (K : AK) hK => ?_ | refine wD ?_ | (refine hK _ ?_; clear hK K)) | simp only [go_sem, Go.undef] | with_reducible refine wA ?_ | clear hK K)
      refine ACallV.one CZ ?_
      repeat (first | (with_reducible first | refine Stp.up ?_ | refine fun (K : AK) hK => ?_ | refine wD ?_ | (refine hK _ ?_; clear hK K)) | simp only [go_sem, d1, Go.undef] | with_reducible refine wA ?_ | clear hK K)
      refine ACallV.one SCD ?_
      repeat (first | (with_reducible first | refine Stp.up ?_ | refine fun (K : AK) hK => ?_ | refine wD ?_ | (refine hK _ ?_; clear hK K)) | simp only [go_sem, Go.undef] | with_reducible refine wA ?_ | clear hK K)
      refine ACallV.one SAA ?_
      repeat (first | (with_reducible first | refine Stp.up ?_ | refine fun (K : AK) hK => ?_ | refine wD ?_ | (refine hK _ ?_; clear hK K)) | simp only [go_sem, Go.undef] | with_reducible refine wA ?_ | clear hK K)
      refine ACallV.one SAB ?_
      repeat (first | (with_reducible first | refine Stp.up ?_ | refine fun (K : AK) hK => ?_ | refine wD ?_ | (refine hK _ ?_; clear hK K)) | simp only [go_sem, Go.undef] | with_reducible refine wA ?_ | clear hK K)
      refine ACallV.one SBA ?_
      repeat (first | (with_reducible first | refine Stp.up ?_ | refine fun (K : AK) hK => ?_ | refine wD ?_ | (refine hK _ ?_; clear hK K)) | simp only [go_sem, fS, Go.undef] | with_reducible refine wA ?_ | clear hK K)
end Go.Proofs.YtfflpdekojlnmaaDoor
