/- kinescopelaw09: DfaTakes: the walk. -/
import Derived.Test.YtfflpdekojlnmaaGreatDoorTLawDfaP
set_option linter.unusedSimpArgs false
set_option linter.unusedVariables false
namespace Go.Proofs.YtfflpdekojlnmaaGreatDoor
open Go.RowKit

attribute [go_sem] wf_autoV
def tkO (x : Ex) (E : List Bool) : List (Option AObj) := [some ⟨25, 3, false, [[.v (.int .i64 x.kind), .v (.string x.label), .slc 3 (x.kids.map encE) x.kids.length]]⟩, some ⟨4, 1, true, encB E⟩]
set_option maxRecDepth 100000 in
set_option maxHeartbeats 16000000 in
theorem lawDfaTakes_c (x : Ex) (w : List ByteArray) (ko : x.ok) : Call1 Tryz.prog 6 [.agg (encE x), strsA w] (.v (.bool true)) := by
 have AW := awake09_c
 have NW := dnew_c x ko
 have SZ := lsize09_c x 0 (by omega)
 have RI := exRight_c x ko
 rw [newA] at NW
 have e60 : ((0 : Nat) : Int) = 0 := rfl
 rw [e60] at SZ
 cases ha : autoM x (labX x) with
 | inr e =>
  rw [ha] at NW
  have he : e ≠ 0 ∧ exRight x = (e == 11) := by
   rw [autoM] at ha
   cases hr : exRight x
   ·rw [hr] at ha; simp at ha; subst ha; exact ⟨by decide, by decide⟩
   ·rw [hr] at ha
    simp only [if_true] at ha
    split at ha
    ·split at ha
     ·simp at ha; subst ha; exact ⟨by decide, by decide⟩
     ·cases ha
    ·simp at ha; subst ha; exact ⟨by decide, by decide⟩
  have f1 : (e == 0) = false := beq_eq_false_iff_ne.2 he.1
  have f2 : (e != 0) = true := by simp [he.1]
  rw [he.2] at RI
  have f3 : ((e == 11) == (e == 11)) = true := by simp
  simp only [encE_eq, strsA] at *
  cases hb1 : decide (300 < ((sX x 0 : Nat) : Int)) <;> cases hb2 : decide (40 < (w.length : Int))
  all_goals
   (refine Call1.enter Tryz.func6 rfl (by kernel_rfl) (by kernel_rfl) rfl (by first | rfl | (simp only [go_sem, Bool.and_self, Bool.and_true, Bool.true_and])) (by first | rfl | (simp only [go_sem, Bool.and_self, Bool.and_true, Bool.true_and])) ?_; simp only [Tryz.ntmps6, Tryz.results6, List.length_cons, List.length_nil, Nat.reduceAdd, Nat.reduceSub, List.replicate_succ, List.replicate_zero, List.cons_append, List.nil_append])
   repeat (first | (with_reducible first | refine Stp.up ?_ | refine fun (K : AK) hK => ?_ | refine wD ?_ | (refine hK _ ?_; clear hK K)) | simp only [go_sem] | with_reducible refine wA ?_ | clear hK K)
   refine ACallV.one AW ?_
   repeat (first | (with_reducible first | refine Stp.up ?_ | refine fun (K : AK) hK => ?_ | refine wD ?_ | (refine hK _ ?_; clear hK K)) | simp only [go_sem] | with_reducible refine wA ?_ | clear hK K)
   refine ACallV.one NW ?_
   repeat (first | (with_reducible first | refine Stp.up ?_ | refine fun (K : AK) hK => ?_ | refine wD ?_ | (refine hK _ ?_; clear hK K)) | simp only [go_sem] | with_reducible refine wA ?_ | clear hK K)
   refine ACallV.one SZ ?_
   repeat (first | (with_reducible first | refine Stp.up ?_ | refine fun (K : AK) hK => ?_ | refine wD ?_ | (refine hK _ ?_; clear hK K)) | simp only [go_sem, f1, f2, hb1, hb2, Go.undef] | with_reducible refine wA ?_ | clear hK K)
   refine ACallV.one RI ?_
   repeat (first | (with_reducible first | refine Stp.up ?_ | refine fun (K : AK) hK => ?_ | refine wD ?_ | (refine hK _ ?_; clear hK K)) | simp only [go_sem, f1, f2, f3, Go.undef] | with_reducible refine wA ?_ | clear hK K)
 | inl A =>
  rw [ha] at NW
  obtain ⟨hr, hlab, LW, LO⟩ := auto_ok ha
  have hpos := LO.pos
  have hmax := LO.max
  have hfew := LO.few
  have CZ := dlen_c A
  have CT := fun s : Int => dtakes_c A LO.ends s
  have CS := fun (s : Int) l => dstep_c A s l
  have CL := dlabels_c A (by omega)
  have tkE : ∀ s : Nat, s < A.rows.length → takesX A s = A.ends.getD s false := fun s hs => by
   rw [takesX, decide_eq_true (by omega), decide_eq_true (by omega)]; rfl
  have stE : ∀ (s : Nat) l, s < A.rows.length → stepX A s l = look (A.rows.getD s []) l := fun s l hs => by
   rw [stepX, if_pos ⟨by omega, by omega⟩, Int.toNat_natCast]
  by_cases hbig : 300 < sX x 0 ∨ 40 < w.length
  ·simp only [encE_eq, strsA] at *
   have hb : decide (300 < ((sX x 0 : Nat) : Int)) = true ∨ (decide (300 < ((sX x 0 : Nat) : Int)) = false ∧ decide (40 < (w.length : Int)) = true) := by
    rcases Nat.lt_or_ge 300 (sX x 0) with q | q
    ·exact .inl (decide_eq_true (by omega))
    ·exact .inr ⟨decide_eq_false (by omega), decide_eq_true (by omega)⟩
   rcases hb with hb1 | ⟨hb1, hb2⟩
   ·(refine Call1.enter Tryz.func6 rfl (by kernel_rfl) (by kernel_rfl) rfl (by first | rfl | (simp only [go_sem, Bool.and_self, Bool.and_true, Bool.true_and])) (by first | rfl | (simp only [go_sem, Bool.and_self, Bool.and_true, Bool.true_and])) ?_; simp only [Tryz.ntmps6, Tryz.results6, List.length_cons, List.length_nil, Nat.reduceAdd, Nat.reduceSub, List.replicate_succ, List.replicate_zero, List.cons_append, List.nil_append])
    repeat (first | (with_reducible first | refine Stp.up ?_ | refine fun (K : AK) hK => ?_ | refine wD ?_ | (refine hK _ ?_; clear hK K)) | simp only [go_sem] | with_reducible refine wA ?_ | clear hK K)
    refine ACallV.one AW ?_
    repeat (first | (with_reducible first | refine Stp.up ?_ | refine fun (K : AK) hK => ?_ | refine wD ?_ | (refine hK _ ?_; clear hK K)) | simp only [go_sem] | with_reducible refine wA ?_ | clear hK K)
    refine ACallV.one NW ?_
    repeat (first | (with_reducible first | refine Stp.up ?_ | refine fun (K : AK) hK => ?_ | refine wD ?_ | (refine hK _ ?_; clear hK K)) | simp only [go_sem] | with_reducible refine wA ?_ | clear hK K)
    refine ACallV.one SZ ?_
    repeat (first | (with_reducible first | refine Stp.up ?_ | refine fun (K : AK) hK => ?_ | refine wD ?_ | (refine hK _ ?_; clear hK K)) | simp only [go_sem, hb1, Go.undef] | with_reducible refine wA ?_ | clear hK K)
   ·(refine Call1.enter Tryz.func6 rfl (by kernel_rfl) (by kernel_rfl) rfl (by first | rfl | (simp only [go_sem, Bool.and_self, Bool.and_true, Bool.true_and])) (by first | rfl | (simp only [go_sem, Bool.and_self, Bool.and_true, Bool.true_and])) ?_; simp only [Tryz.ntmps6, Tryz.results6, List.length_cons, List.length_nil, Nat.reduceAdd, Nat.reduceSub, List.replicate_succ, List.replicate_zero, List.cons_append, List.nil_append])
    repeat (first | (with_reducible first | refine Stp.up ?_ | refine fun (K : AK) hK => ?_ | refine wD ?_ | (refine hK _ ?_; clear hK K)) | simp only [go_sem] | with_reducible refine wA ?_ | clear hK K)
    refine ACallV.one AW ?_
    repeat (first | (with_reducible first | refine Stp.up ?_ | refine fun (K : AK) hK => ?_ | refine wD ?_ | (refine hK _ ?_; clear hK K)) | simp only [go_sem] | with_reducible refine wA ?_ | clear hK K)
    refine ACallV.one NW ?_
    repeat (first | (with_reducible first | refine Stp.up ?_ | refine fun (K : AK) hK => ?_ | refine wD ?_ | (refine hK _ ?_; clear hK K)) | simp only [go_sem] | with_reducible refine wA ?_ | clear hK K)
    refine ACallV.one SZ ?_
    repeat (first | (with_reducible first | refine Stp.up ?_ | refine fun (K : AK) hK => ?_ | refine wD ?_ | (refine hK _ ?_; clear hK K)) | simp only [go_sem, hb1, hb2, Go.undef] | with_reducible refine wA ?_ | clear hK K)
  ·have hb1 : decide (300 < ((sX x 0 : Nat) : Int)) = false := decide_eq_false (by omega)
   have hb2 : decide (40 < (w.length : Int)) = false := decide_eq_false (by omega)
   have CW := dword_c A LO.toAOk w (by omega)
   have TK := takes_c x w ko (by omega)
   rw [LW.takes w] at CW
   have z0 : List.replicate A.rows.length [AV.v (.bool false)] = encB (List.replicate A.rows.length false) := by simp [encB]
   simp only [encE_eq, strsA] at *
   (refine Call1.enter Tryz.func6 rfl (by kernel_rfl) (by kernel_rfl) rfl (by first | rfl | (simp only [go_sem, Bool.and_self, Bool.and_true, Bool.true_and])) (by first | rfl | (simp only [go_sem, Bool.and_self, Bool.and_true, Bool.true_and])) ?_; simp only [Tryz.ntmps6, Tryz.results6, List.length_cons, List.length_nil, Nat.reduceAdd, Nat.reduceSub, List.replicate_succ, List.replicate_zero, List.cons_append, List.nil_append])
   repeat (first | (with_reducible first | refine Stp.up ?_ | refine fun (K : AK) hK => ?_ | refine wD ?_ | (refine hK _ ?_; clear hK K)) | simp only [go_sem] | with_reducible refine wA ?_ | clear hK K)
   refine ACallV.one AW ?_
   repeat (first | (with_reducible first | refine Stp.up ?_ | refine fun (K : AK) hK => ?_ | refine wD ?_ | (refine hK _ ?_; clear hK K)) | simp only [go_sem] | with_reducible refine wA ?_ | clear hK K)
   refine ACallV.one NW ?_
   repeat (first | (with_reducible first | refine Stp.up ?_ | refine fun (K : AK) hK => ?_ | refine wD ?_ | (refine hK _ ?_; clear hK K)) | simp only [go_sem] | with_reducible refine wA ?_ | clear hK K)
   refine ACallV.one SZ ?_
   repeat (first | (with_reducible first | refine Stp.up ?_ | refine fun (K : AK) hK => ?_ | refine wD ?_ | (refine hK _ ?_; clear hK K)) | simp only [go_sem, hb1, hb2, Go.undef] | with_reducible refine wA ?_ | clear hK K)
   refine ACallV.one CL ?_
   repeat (first | (with_reducible first | refine Stp.up ?_ | refine fun (K : AK) hK => ?_ | refine wD ?_ | (refine hK _ ?_; clear hK K)) | simp only [go_sem] | with_reducible refine wA ?_ | clear hK K)
   refine ACallV.one CZ ?_
   repeat (first | (with_reducible first | refine Stp.up ?_ | refine fun (K : AK) hK => ?_ | refine wD ?_ | (refine hK _ ?_; clear hK K)) | simp only [go_sem] | with_reducible refine wA ?_ | clear hK K)
   refine awp_loopO (ι := Nat × List Bool) 15 (fun y => [(9, .v (.int .i64 y.1))]) (fun y => tkO x y.2) (fun y => A.rows.length + 2 - y.1) (fun y => RndO A y.1 y.2) (0, List.replicate A.rows.length false) (RndO.zero A) ?_ ?_
   ·simp only [tkO]
    (refine wk_mk ?_ ?_ ?_ <;> simp only [frm, List.foldl_cons, List.foldl_nil, List.replicate_succ, List.replicate_zero, WkT, WkO, AV.v.injEq, Value.int.injEq, Value.bool.injEq, Value.string.injEq, AV.vec.injEq, AV.ptr.injEq, true_or, or_true, false_or, or_false, AObj.mk.injEq, forall_eq_apply_imp_iff, forall_eq, forall_eq', go_sem])
    all_goals first | rfl | exact ⟨rfl, z0⟩ | exact z0 | trace_state
   ·rintro ⟨r, E0⟩ h0 K hK
    simp only at h0
    have hr1 := h0.le
    have eW1 := wrap_succ (k := r) (by omega)
    simp only [tkO]
    repeat (first | (with_reducible first | refine Stp.up ?_ | refine fun (K : AK) hK => ?_ | refine wD ?_ | (refine hK _ ?_; clear hK K)) | simp only [go_sem] | with_reducible refine wA ?_ | clear hK K)
    refine ACallV.one CZ ?_
    repeat (first | (with_reducible first | refine Stp.up ?_ | refine fun (K : AK) hK => ?_ | refine wD ?_ | (refine hK _ ?_; clear hK K)) | simp only [go_sem] | with_reducible refine wA ?_ | clear hK K)
    refine AIf.part (fun g => ?_) (fun g => ?_)
    ·have hrn : r ≤ A.rows.length := by (try simp only [bne_iff_ne, ne_eq, bne_eq_false_iff_eq, beq_iff_eq, beq_eq_false_iff_ne, decide_eq_true_eq, decide_eq_false_iff_not, Bool.not_eq_eq_eq_not, Int.natCast_inj, Int.ofNat_lt, Int.ofNat_le] at g); omega
     repeat (first | (with_reducible first | refine Stp.up ?_ | refine fun (K : AK) hK => ?_ | refine wD ?_ | (refine hK _ ?_; clear hK K)) | simp only [go_sem] | with_reducible refine wA ?_ | clear hK K)
     refine awp_loopO (ι := Nat × List Bool) 15 (fun y => [(10, .v (.int .i64 y.1))]) (fun y => tkO x y.2) (fun y => A.rows.length - y.1) (fun y => RndM A r E0 y.1 y.2) (0, E0) h0.start ?_ ?_
     ·simp only [tkO]
      (refine wk_mk ?_ ?_ ?_ <;> simp only [frm, List.foldl_cons, List.foldl_nil, List.replicate_succ, List.replicate_zero, WkT, WkO, AV.v.injEq, Value.int.injEq, Value.bool.injEq, Value.string.injEq, AV.vec.injEq, AV.ptr.injEq, true_or, or_true, false_or, or_false, AObj.mk.injEq, forall_eq_apply_imp_iff, forall_eq, forall_eq', go_sem])
      all_goals rfl
     ·rintro ⟨s, E⟩ h1 K hK
      simp only at h1
      have hs1 := h1.le
      have eW2 := wrap_succ (k := s) (by omega)
      simp only [tkO]
      repeat (first | (with_reducible first | refine Stp.up ?_ | refine fun (K : AK) hK => ?_ | refine wD ?_ | (refine hK _ ?_; clear hK K)) | simp only [go_sem] | with_reducible refine wA ?_ | clear hK K)
      refine ACallV.one CZ ?_
      repeat (first | (with_reducible first | refine Stp.up ?_ | refine fun (K : AK) hK => ?_ | refine wD ?_ | (refine hK _ ?_; clear hK K)) | simp only [go_sem] | with_reducible refine wA ?_ | clear hK K)
      refine AIf.part (fun g2 => ?_) (fun g2 => ?_)
      ·have hs : s < A.rows.length := by (try simp only [bne_iff_ne, ne_eq, bne_eq_false_iff_eq, beq_iff_eq, beq_eq_false_iff_ne, decide_eq_true_eq, decide_eq_false_iff_not, Bool.not_eq_eq_eq_not, Int.natCast_inj, Int.ofNat_lt, Int.ofNat_le] at g2); omega
       have eL : (encB E).length = A.rows.length := by rw [encB_len, h1.len]
       have eQ := encB_get E (i := s) (by rw [h1.len]; exact hs)
       have CTs := CT s
       rw [tkE s hs] at CTs
       have h2 := h1.own hs
       repeat ((fail_if_success (with_reducible refine stopR (i := 14) ?_)); first | (with_reducible first | refine Stp.up ?_ | refine fun (K : AK) hK => ?_ | (refine hK _ ?_; clear hK K)) | simp only [go_sem, g2] | with_reducible refine wA ?_ | clear hK K)
       refine awp_join ⟨frm 143 [(0, .agg [.v (.int .i64 x.kind), .v (.string x.label), .slc 3 (x.kids.map encE) x.kids.length]), (1, .slc 1 (w.map encS) w.length), (2, .ptr 0 0 3 0 0), (4, .v (.bool false)), (5, .vp (autoV A)), (6, .v (.int .i64 0)), (7, .slc 1 (A.labs.map encS) A.labs.length), (8, .vec 1 A.rows.length), (9, .v (.int .i64 r)), (10, .v (.int .i64 s))], tkO x (E.set s (E.getD s false || A.ends.getD s false)), .no⟩ (by kernel_rfl) ?_ ?_
       ·simp only [tkO]
        cases hb : E.getD s false
        ·have eS := encB_set E s (A.ends.getD s false)
         rw [hb] at eQ
         simp only [Bool.false_or]
         repeat (first | (with_reducible first | refine Stp.up ?_ | refine fun (K : AK) hK => ?_ | refine wD ?_ | (refine hK _ ?_; clear hK K)) | simp only [go_sem, eL, eQ, List.drop_succ_cons, List.drop_zero, eS, Go.undef] | with_reducible refine wA ?_ | clear hK K)
         refine ACallV.one CTs ?_
         repeat (first | (with_reducible first | refine Stp.up ?_ | refine fun (K : AK) hK => ?_ | refine wD ?_ | (refine hK _ ?_; clear hK K)) | simp only [go_sem, eL, eQ, List.drop_succ_cons, List.drop_zero, eS, Go.undef] | with_reducible refine wA ?_ | clear hK K)
         (refine wk_mk ?_ ?_ ?_ <;> simp only [frm, List.foldl_cons, List.foldl_nil, List.replicate_succ, List.replicate_zero, WkT, WkO, AV.v.injEq, Value.int.injEq, Value.bool.injEq, Value.string.injEq, AV.vec.injEq, AV.ptr.injEq, true_or, or_true, false_or, or_false, AObj.mk.injEq, forall_eq_apply_imp_iff, forall_eq, forall_eq', go_sem])
        ·have eS := encB_set E s true
         rw [hb] at eQ
         simp only [Bool.true_or]
         repeat (first | (with_reducible first | refine Stp.up ?_ | refine fun (K : AK) hK => ?_ | refine wD ?_ | (refine hK _ ?_; clear hK K)) | simp only [go_sem, eL, eQ, List.drop_succ_cons, List.drop_zero, eS, Go.undef] | with_reducible refine wA ?_ | clear hK K)
         (refine wk_mk ?_ ?_ ?_ <;> simp only [frm, List.foldl_cons, List.foldl_nil, List.replicate_succ, List.replicate_zero, WkT, WkO, AV.v.injEq, Value.int.injEq, Value.bool.injEq, Value.string.injEq, AV.vec.injEq, AV.ptr.injEq, true_or, or_true, false_or, or_false, AObj.mk.injEq, forall_eq_apply_imp_iff, forall_eq, forall_eq', go_sem])
       ·generalize E.set s (E.getD s false || A.ends.getD s false) = E1 at h2 ⊢
        simp only [tkO]
        simp only [frm, List.foldl_cons, List.foldl_nil, List.replicate_succ, List.replicate_zero, go_sem]
        repeat (first | (with_reducible first | refine Stp.up ?_ | refine fun (K : AK) hK => ?_ | refine wD ?_ | (refine hK _ ?_; clear hK K)) | simp only [go_sem] | with_reducible refine wA ?_ | clear hK K)
        refine awp_loopO (ι := Nat × List Bool) 15 (fun y => [(11, .v (.int .i64 y.1))]) (fun y => tkO x y.2) (fun y => A.labs.length - y.1) (fun y => RndI A r E0 s y.1 y.2) (0, E1) h2 ?_ ?_
        ·simp only [tkO]
         (refine wk_mk ?_ ?_ ?_ <;> simp only [frm, List.foldl_cons, List.foldl_nil, List.replicate_succ, List.replicate_zero, WkT, WkO, AV.v.injEq, Value.int.injEq, Value.bool.injEq, Value.string.injEq, AV.vec.injEq, AV.ptr.injEq, true_or, or_true, false_or, or_false, AObj.mk.injEq, forall_eq_apply_imp_iff, forall_eq, forall_eq', go_sem])
         all_goals rfl
        ·rintro ⟨k, E⟩ h3 K hK
         simp only at h3
         have hk1 := h3.lek
         have eW3 := wrap_succ (k := k) (by omega)
         simp only [tkO]
         repeat (first | (with_reducible first | refine Stp.up ?_ | refine fun (K : AK) hK => ?_ | refine wD ?_ | (refine hK _ ?_; clear hK K)) | simp only [go_sem] | with_reducible refine wA ?_ | clear hK K)
         refine AIf.part (fun g3 => ?_) (fun g3 => ?_)
         ·have hk : k < A.labs.length := by (try simp only [bne_iff_ne, ne_eq, bne_eq_false_iff_eq, beq_iff_eq, beq_eq_false_iff_ne, decide_eq_true_eq, decide_eq_false_iff_not, Bool.not_eq_eq_eq_not, Int.natCast_inj, Int.ofNat_lt, Int.ofNat_le] at g3); omega
          have eL : (encB E).length = A.rows.length := by rw [encB_len, h3.len]
          have eQ := encB_get E (i := s) (by rw [h3.len]; exact hs)
          have eG := getD_map encS A.labs k [] hk
          have eLk : A.labs.getD k ⟨#[]⟩ = A.labs[k] := by rw [List.getD_eq_getElem?_getD, List.getElem?_eq_getElem hk]; rfl
          have CSk := CS s A.labs[k]
          rw [stE s _ hs] at CSk
          have h4 := h3.step hs hk
          rw [eLk] at h4
          simp only [encS] at eG
          cases hl : look (A.rows.getD s []) A.labs[k] with
          | none =>
           rw [hl] at CSk h4
           simp only [stepT, Option.getD_none, Option.isSome_none, Bool.or_false] at CSk h4
           cases hb : E.getD s false
           ·have eS := encB_set E s false
            rw [hb] at eQ h4
            repeat (first | (with_reducible first | refine Stp.up ?_ | refine fun (K : AK) hK => ?_ | refine wD ?_ | (refine hK _ ?_; clear hK K)) | simp only [go_sem, eG, g3] | with_reducible refine wA ?_ | clear hK K)
            refine ACallV.one CSk ?_
            repeat (first | (with_reducible first | refine Stp.up ?_ | refine fun (K : AK) hK => ?_ | refine wD ?_ | (refine hK _ ?_; clear hK K)) | simp only [go_sem, eL, eQ, List.drop_succ_cons, List.drop_zero, eS, Go.undef] | with_reducible refine wA ?_ | clear hK K)
            repeat (first | (with_reducible first | refine Stp.up ?_ | refine fun (K : AK) hK => ?_ | refine wD ?_ | (refine hK _ ?_; clear hK K)) | simp only [go_sem, eW3] | with_reducible refine wA ?_ | clear hK K)
            refine LNext.mk (k + 1, E.set s false) h4 (by show A.labs.length - (k + 1) < A.labs.length - k; omega) ?_
            simp only [tkO]
            (refine wk_mk ?_ ?_ ?_ <;> simp only [frm, List.foldl_cons, List.foldl_nil, List.replicate_succ, List.replicate_zero, WkT, WkO, AV.v.injEq, Value.int.injEq, Value.bool.injEq, Value.string.injEq, AV.vec.injEq, AV.ptr.injEq, true_or, or_true, false_or, or_false, AObj.mk.injEq, forall_eq_apply_imp_iff, forall_eq, forall_eq', go_sem])
           ·have eS := encB_set E s true
            rw [hb] at eQ h4
            repeat (first | (with_reducible first | refine Stp.up ?_ | refine fun (K : AK) hK => ?_ | refine wD ?_ | (refine hK _ ?_; clear hK K)) | simp only [go_sem, eG, g3] | with_reducible refine wA ?_ | clear hK K)
            refine ACallV.one CSk ?_
            repeat (first | (with_reducible first | refine Stp.up ?_ | refine fun (K : AK) hK => ?_ | refine wD ?_ | (refine hK _ ?_; clear hK K)) | simp only [go_sem, eL, eQ, List.drop_succ_cons, List.drop_zero, eS, Go.undef] | with_reducible refine wA ?_ | clear hK K)
            repeat (first | (with_reducible first | refine Stp.up ?_ | refine fun (K : AK) hK => ?_ | refine wD ?_ | (refine hK _ ?_; clear hK K)) | simp only [go_sem, eW3] | with_reducible refine wA ?_ | clear hK K)
            refine LNext.mk (k + 1, E.set s true) h4 (by show A.labs.length - (k + 1) < A.labs.length - k; omega) ?_
            simp only [tkO]
            (refine wk_mk ?_ ?_ ?_ <;> simp only [frm, List.foldl_cons, List.foldl_nil, List.replicate_succ, List.replicate_zero, WkT, WkO, AV.v.injEq, Value.int.injEq, Value.bool.injEq, Value.string.injEq, AV.vec.injEq, AV.ptr.injEq, true_or, or_true, false_or, or_false, AObj.mk.injEq, forall_eq_apply_imp_iff, forall_eq, forall_eq', go_sem])
          | some t =>
           rw [hl] at CSk h4
           simp only [stepT, Option.getD_some, Option.isSome_some] at CSk h4
           have htn : t < A.rows.length := (LO.row _ (getD_mem (d := []) hs)).2 _ (look_mem hl)
           have d1 : decide ((t : Int) < 0) = false := decide_eq_false (by omega)
           have d2 : decide ((A.rows.length : Int) ≤ (t : Int)) = false := decide_eq_false (by omega)
           have eT := encB_get E (i := t) (by rw [h3.len]; exact htn)
           cases hb : E.getD s false
           ·have eS := encB_set E s (E.getD t false)
            rw [hb] at eQ h4
            simp only [Bool.false_or] at h4
            repeat (first | (with_reducible first | refine Stp.up ?_ | refine fun (K : AK) hK => ?_ | refine wD ?_ | (refine hK _ ?_; clear hK K)) | simp only [go_sem, eG, g3] | with_reducible refine wA ?_ | clear hK K)
            refine ACallV.one CSk ?_
            repeat (first | (with_reducible first | refine Stp.up ?_ | refine fun (K : AK) hK => ?_ | refine wD ?_ | (refine hK _ ?_; clear hK K)) | simp only [go_sem, d1, Go.undef] | with_reducible refine wA ?_ | clear hK K)
            refine ACallV.one CZ ?_
            repeat (first | (with_reducible first | refine Stp.up ?_ | refine fun (K : AK) hK => ?_ | refine wD ?_ | (refine hK _ ?_; clear hK K)) | simp only [go_sem, d2, eL, eQ, eT, List.drop_succ_cons, List.drop_zero, eS, Go.undef] | with_reducible refine wA ?_ | clear hK K)
            repeat (first | (with_reducible first | refine Stp.up ?_ | refine fun (K : AK) hK => ?_ | refine wD ?_ | (refine hK _ ?_; clear hK K)) | simp only [go_sem, eW3] | with_reducible refine wA ?_ | clear hK K)
            refine LNext.mk (k + 1, E.set s (E.getD t false)) h4 (by show A.labs.length - (k + 1) < A.labs.length - k; omega) ?_
            simp only [tkO]
            (refine wk_mk ?_ ?_ ?_ <;> simp only [frm, List.foldl_cons, List.foldl_nil, List.replicate_succ, List.replicate_zero, WkT, WkO, AV.v.injEq, Value.int.injEq, Value.bool.injEq, Value.string.injEq, AV.vec.injEq, AV.ptr.injEq, true_or, or_true, false_or, or_false, AObj.mk.injEq, forall_eq_apply_imp_iff, forall_eq, forall_eq', go_sem])
           ·have eS := encB_set E s true
            rw [hb] at eQ h4
            simp only [Bool.true_or] at h4
            repeat (first | (with_reducible first | refine Stp.up ?_ | refine fun (K : AK) hK => ?_ | refine wD ?_ | (refine hK _ ?_; clear hK K)) | simp only [go_sem, eG, g3] | with_reducible refine wA ?_ | clear hK K)
            refine ACallV.one CSk ?_
            repeat (first | (with_reducible first | refine Stp.up ?_ | refine fun (K : AK) hK => ?_ | refine wD ?_ | (refine hK _ ?_; clear hK K)) | simp only [go_sem, d1, Go.undef] | with_reducible refine wA ?_ | clear hK K)
            refine ACallV.one CZ ?_
            repeat (first | (with_reducible first | refine Stp.up ?_ | refine fun (K : AK) hK => ?_ | refine wD ?_ | (refine hK _ ?_; clear hK K)) | simp only [go_sem, d2, eL, eQ, eT, List.drop_succ_cons, List.drop_zero, eS, Go.undef] | with_reducible refine wA ?_ | clear hK K)
            repeat (first | (with_reducible first | refine Stp.up ?_ | refine fun (K : AK) hK => ?_ | refine wD ?_ | (refine hK _ ?_; clear hK K)) | simp only [go_sem, eW3] | with_reducible refine wA ?_ | clear hK K)
            refine LNext.mk (k + 1, E.set s true) h4 (by show A.labs.length - (k + 1) < A.labs.length - k; omega) ?_
            simp only [tkO]
            (refine wk_mk ?_ ?_ ?_ <;> simp only [frm, List.foldl_cons, List.foldl_nil, List.replicate_succ, List.replicate_zero, WkT, WkO, AV.v.injEq, Value.int.injEq, Value.bool.injEq, Value.string.injEq, AV.vec.injEq, AV.ptr.injEq, true_or, or_true, false_or, or_false, AObj.mk.injEq, forall_eq_apply_imp_iff, forall_eq, forall_eq', go_sem])
         ·have hk : k = A.labs.length := by (try simp only [bne_iff_ne, ne_eq, bne_eq_false_iff_eq, beq_iff_eq, beq_eq_false_iff_ne, decide_eq_true_eq, decide_eq_false_iff_not, Bool.not_eq_eq_eq_not, Int.natCast_inj, Int.ofNat_lt, Int.ofNat_le] at g3); omega
          have h5 := (hk ▸ h3).fin LO.toAOk h0 hs
          repeat (first | (with_reducible first | refine Stp.up ?_ | refine fun (K : AK) hK => ?_ | refine wD ?_ | (refine hK _ ?_; clear hK K)) | simp only [go_sem, eW2] | with_reducible refine wA ?_ | clear hK K)
          refine LNext.mk (s + 1, E) h5 (by show A.rows.length - (s + 1) < A.rows.length - s; omega) ?_
          simp only [tkO]
          (refine wk_mk ?_ ?_ ?_ <;> simp only [frm, List.foldl_cons, List.foldl_nil, List.replicate_succ, List.replicate_zero, WkT, WkO, AV.v.injEq, Value.int.injEq, Value.bool.injEq, Value.string.injEq, AV.vec.injEq, AV.ptr.injEq, true_or, or_true, false_or, or_false, AObj.mk.injEq, forall_eq_apply_imp_iff, forall_eq, forall_eq', go_sem])
      ·have hs : s = A.rows.length := by (try simp only [bne_iff_ne, ne_eq, bne_eq_false_iff_eq, beq_iff_eq, beq_eq_false_iff_ne, decide_eq_true_eq, decide_eq_false_iff_not, Bool.not_eq_eq_eq_not, Int.natCast_inj, Int.ofNat_lt, Int.ofNat_le] at g2); omega
       have h5 := (hs ▸ h1).fin hrn
       repeat (first | (with_reducible first | refine Stp.up ?_ | refine fun (K : AK) hK => ?_ | refine wD ?_ | (refine hK _ ?_; clear hK K)) | simp only [go_sem, eW1] | with_reducible refine wA ?_ | clear hK K)
       refine LNext.mk (r + 1, E) h5 (by show A.rows.length + 2 - (r + 1) < A.rows.length + 2 - r; omega) ?_
       simp only [tkO]
       (refine wk_mk ?_ ?_ ?_ <;> simp only [frm, List.foldl_cons, List.foldl_nil, List.replicate_succ, List.replicate_zero, WkT, WkO, AV.v.injEq, Value.int.injEq, Value.bool.injEq, Value.string.injEq, AV.vec.injEq, AV.ptr.injEq, true_or, or_true, false_or, or_false, AObj.mk.injEq, forall_eq_apply_imp_iff, forall_eq, forall_eq', go_sem])
    ·have hrn : r = A.rows.length + 1 := by (try simp only [bne_iff_ne, ne_eq, bne_eq_false_iff_eq, beq_iff_eq, beq_eq_false_iff_ne, decide_eq_true_eq, decide_eq_false_iff_not, Bool.not_eq_eq_eq_not, Int.natCast_inj, Int.ofNat_lt, Int.ofNat_le] at g); omega
     have hall : ∀ s, s < A.rows.length → E0.getD s false = true := fun s hs => (hrn ▸ h0).all LW hs
     have f1 : (exTakes x w == exTakes x w) = true := by simp
     have f2 : decide (1 ≤ (A.rows.length : Int)) = true := decide_eq_true (by omega)
     have f3 : decide ((A.rows.length : Int) ≤ 32) = true := decide_eq_true (by omega)
     have eL : (encB E0).length = A.rows.length := by rw [encB_len, h0.len]
     repeat (first | (with_reducible first | refine Stp.up ?_ | refine fun (K : AK) hK => ?_ | refine wD ?_ | (refine hK _ ?_; clear hK K)) | simp only [go_sem] | with_reducible refine wA ?_ | clear hK K)
     refine awp_loopK (ι := Nat) 15 (fun s => [(14, .v (.int .i64 s))]) (fun s => A.rows.length - s) (fun s => s ≤ A.rows.length) 0 (Nat.zero_le _) ?_ ?_
     ·(refine wk_mk ?_ ?_ ?_ <;> simp only [frm, List.foldl_cons, List.foldl_nil, List.replicate_succ, List.replicate_zero, WkT, WkO, AV.v.injEq, Value.int.injEq, Value.bool.injEq, Value.string.injEq, AV.vec.injEq, AV.ptr.injEq, true_or, or_true, false_or, or_false, AObj.mk.injEq, forall_eq_apply_imp_iff, forall_eq, forall_eq', go_sem])
      all_goals rfl
     ·intro s hs K hK
      have eW4 := wrap_succ (k := s) (by omega)
      repeat (first | (with_reducible first | refine Stp.up ?_ | refine fun (K : AK) hK => ?_ | refine wD ?_ | (refine hK _ ?_; clear hK K)) | simp only [go_sem] | with_reducible refine wA ?_ | clear hK K)
      refine ACallV.one CZ ?_
      repeat (first | (with_reducible first | refine Stp.up ?_ | refine fun (K : AK) hK => ?_ | refine wD ?_ | (refine hK _ ?_; clear hK K)) | simp only [go_sem] | with_reducible refine wA ?_ | clear hK K)
      refine AIf.part (fun g4 => ?_) (fun g4 => ?_)
      ·have hlt : s < A.rows.length := by (try simp only [bne_iff_ne, ne_eq, bne_eq_false_iff_eq, beq_iff_eq, beq_eq_false_iff_ne, decide_eq_true_eq, decide_eq_false_iff_not, Bool.not_eq_eq_eq_not, Int.natCast_inj, Int.ofNat_lt, Int.ofNat_le] at g4); omega
       have eQ := encB_get E0 (i := s) (by rw [h0.len]; exact hlt)
       rw [hall s hlt] at eQ
       repeat (first | (with_reducible first | refine Stp.up ?_ | refine fun (K : AK) hK => ?_ | refine wD ?_ | (refine hK _ ?_; clear hK K)) | simp only [go_sem, eL, eQ, g4] | with_reducible refine wA ?_ | clear hK K)
       repeat (first | (with_reducible first | refine Stp.up ?_ | refine fun (K : AK) hK => ?_ | refine wD ?_ | (refine hK _ ?_; clear hK K)) | simp only [go_sem, eW4] | with_reducible refine wA ?_ | clear hK K)
       exact LNext.mk (s + 1) hlt (by omega) (by (refine wk_mk ?_ ?_ ?_ <;> simp only [frm, List.foldl_cons, List.foldl_nil, List.replicate_succ, List.replicate_zero, WkT, WkO, AV.v.injEq, Value.int.injEq, Value.bool.injEq, Value.string.injEq, AV.vec.injEq, AV.ptr.injEq, true_or, or_true, false_or, or_false, AObj.mk.injEq, forall_eq_apply_imp_iff, forall_eq, forall_eq', go_sem]))
      ·repeat (first | (with_reducible first | refine Stp.up ?_ | refine fun (K : AK) hK => ?_ | refine wD ?_ | (refine hK _ ?_; clear hK K)) | simp only [go_sem] | with_reducible refine wA ?_ | clear hK K)
       refine ACallS.one CW ?_
       repeat (first | (with_reducible first | refine Stp.up ?_ | refine fun (K : AK) hK => ?_ | refine wD ?_ | (refine hK _ ?_; clear hK K)) | simp only [go_sem] | with_reducible refine wA ?_ | clear hK K)
       refine ACallS.one TK ?_
       repeat (first | (with_reducible first | refine Stp.up ?_ | refine fun (K : AK) hK => ?_ | refine wD ?_ | (refine hK _ ?_; clear hK K)) | simp only [go_sem, f1] | with_reducible refine wA ?_ | clear hK K)
       refine ACallS.one CZ ?_
       repeat (first | (with_reducible first | refine Stp.up ?_ | refine fun (K : AK) hK => ?_ | refine wD ?_ | (refine hK _ ?_; clear hK K)) | simp only [go_sem, f2] | with_reducible refine wA ?_ | clear hK K)
       refine ACallS.one CZ ?_
       repeat (first | (with_reducible first | refine Stp.up ?_ | refine fun (K : AK) hK => ?_ | refine wD ?_ | (refine hK _ ?_; clear hK K)) | simp only [go_sem, f3] | with_reducible refine wA ?_ | clear hK K)
end Go.Proofs.YtfflpdekojlnmaaGreatDoor
