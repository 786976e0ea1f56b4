/- dfa.sets: the graph of the sets of positions. -/
import Derived.Test.YtfflpdekojlnmaaDoorLDfaB
import Derived.Test.YtfflpdekojlnmaaDoorLJoin
import Derived.Test.YtfflpdekojlnmaaDoorLDrawL
set_option linter.unusedSimpArgs false
set_option linter.unusedVariables false
namespace Go.Proofs.YtfflpdekojlnmaaDoor
open Go.RowKit

theorem nd_take {l : List ByteArray} (hn : l.Nodup) {i : Nat} (h : i < l.length) : l[i] ∉ l.take i := fun q => by
 obtain ⟨j, hj, e⟩ := List.mem_take_iff_getElem.1 q
 exact List.pairwise_iff_getElem.1 hn j i (by omega) h (by omega) e
theorem mRow_nil : mRow [] = [] := rfl
def aRow (a : List Nat) : List AV := [.slc 1 (encN a) a.length]
theorem wf_aRow (n : Nat) (a : List Nat) : wfL n (aRow a) = true := by simp only [aRow, wfL, AV.wf, wf_encNN, Bool.and_self]
@[go_sem] theorem wf_aRows (n : Nat) (l : List (List Nat)) : wfR n (l.map aRow) = true := wfR_map _ (wf_aRow n) _
def setsA : Option SSt → AV
 | some st => .tup [.vp (gV st.rows st.ends), .v (.bool true)]
 | none => .tup [.v (.pointer none), .v (.bool false)]
theorem wf_setsA (o : Option SSt) : (setsA o).wf 0 = true := by
 cases o with
 | none => rfl
 | some st => simp only [setsA, AV.wf, wfL, gV, wf_gR, wf_gE, Bool.and_self]
theorem bits_small (m : BitVec 32) : (∀ n ∈ bitsM m, n < 100) ∧ (bitsM m).length ≤ 1000 := by
 refine ⟨fun n hn => ?_, ?_⟩
 ·rw [bitsM, List.mem_filter, List.mem_range] at hn; omega
 ·have := List.length_filter_le m.getLsbD (List.range 32)
  rw [List.length_range] at this
  rw [bitsM]; omega
theorem made_small {s : NSt} {a : List Nat} (h : Made (stepL s) a) : (∀ n ∈ a, n < 100) ∧ a.length ≤ 1000 := by
 rcases h.2 with rfl | ⟨cur, l, rfl⟩
 ·simp
 ·exact bits_small _
def setsO (s : NSt) (st : SSt) : List (Option AObj) := [some ⟨75, 1, false, [[.slc 1 (encN (bitsM s.la)) (bitsM s.la).length]]⟩, some ⟨59, 0, false, knM (st.all.map keyB)⟩, none, none, some ⟨75, 1, true, st.all.map aRow⟩, some ⟨54, 2, false, [[.vec 6 st.rows.length, .vec 7 st.rows.length]]⟩, some ⟨60, 1, true, st.rows.map (fun r => [.mp (mRow r)])⟩, some ⟨4, 1, true, st.ends.map (fun b => [.v (.bool b)])⟩]
set_option maxRecDepth 100000 in
set_option maxHeartbeats 8000000 in
theorem sets_c {s : NSt} (ok : NOk s) (labs : List ByteArray) (hn : labs.Nodup) (hl : labs.length ≤ 1000) (hb : (bitsM s.la).length ≤ 1000) : Call1 Tryd.prog 17 [.vp (nfaV s), strsA labs] (setsA (setsM (stepL s) s.em (bitsM s.la) labs)) := by
 have CL := nLast_c s ok.len
 have CE := nEmpty_c s ok.len
 have CK0 := key_c [0] (by simp) (by simp)
 have e0 : encN [0] = [[.v (.int .i64 0)]] := rfl
 rw [e0] at CK0
 simp only [List.length_cons, List.length_nil, Nat.reduceAdd] at CK0
 have hA : wfL 0 [AV.vp (nfaV s), strsA labs] = true := by simp only [strsA, wfL, AV.wf, wf_nfaV, wf_encS, Bool.and_self]
 have hF := wf_setsA (setsM (stepL s) s.em (bitsM s.la) labs)
 generalize hrv : setsA (setsM (stepL s) s.em (bitsM s.la) labs) = rv at hF ⊢
 (refine Call1.enterS Tryd.func17 rfl (by kernel_rfl) (by kernel_rfl) rfl hA hF ?_; simp only [Tryd.ntmps17, Tryd.results17, List.length_cons, List.length_nil, Nat.reduceAdd, Nat.reduceSub, List.replicate_succ, List.replicate_zero, List.cons_append, List.nil_append])
 repeat (first | (with_reducible first | refine Stp.up ?_ | refine fun (K : AK) hK => ?_ | (refine hK _ ?_; clear hK K)) | simp only [go_sem] | with_reducible refine wA ?_ | clear hK K)
 refine ACallV.one CL ?_
 repeat (first | (with_reducible first | refine Stp.up ?_ | refine fun (K : AK) hK => ?_ | (refine hK _ ?_; clear hK K)) | simp only [go_sem] | with_reducible refine wA ?_ | clear hK K)
 refine ACallV.frz CK0 8 rfl (by simp only [go_sem, Nat.reduceLT, Nat.reduceLeDiff, Nat.reduceEqDiff, Nat.lt_add_one, Nat.zero_lt_one, and_self]) rfl ?_
 repeat ((fail_if_success (with_reducible refine stopR (i := 5) ?_)); first | (with_reducible first | refine Stp.up ?_ | refine fun (K : AK) hK => ?_ | (refine hK _ ?_; clear hK K)) | simp only [go_sem] | with_reducible refine wA ?_ | clear hK K)
 refine awp_turn (turn_frc (k := 4) (i := 0) (j := 0) (by decide) rfl (Nat.zero_lt_succ _) rfl rfl rfl rfl rfl) (by kernel_rfl) ?_
 simp only [List.set_cons_zero, List.set_cons_succ, List.length_cons, List.length_nil, Nat.reduceAdd, List.cons_append, List.nil_append]
 refine awp_turn (turn_cell (k := 5) (i := 0) (j := 0) 60 1 (by decide) rfl (by decide) rfl rfl) (by kernel_rfl) ?_
 simp only [List.set_cons_zero, List.set_cons_succ, List.length_cons, List.length_nil, Nat.reduceAdd, List.cons_append, List.nil_append]
 refine awp_turn (turn_cell (k := 5) (i := 0) (j := 1) 4 1 (by decide) rfl (by decide) rfl rfl) (by kernel_rfl) ?_
 simp only [List.set_cons_zero, List.set_cons_succ, List.length_cons, List.length_nil, Nat.reduceAdd, List.cons_append, List.nil_append]
 repeat (first | (with_reducible first | refine Stp.up ?_ | refine fun (K : AK) hK => ?_ | (refine hK _ ?_; clear hK K)) | simp only [go_sem] | with_reducible refine wA ?_ | clear hK K)
 refine awp_loopO (ι := SSt) 10 (fun st => [(8, .vec 4 st.all.length), (10, .v (.int .i64 st.rows.length))]) (setsO s) (fun st => 257 - st.rows.length) (fun st => SOk labs st ∧ (∀ a ∈ st.all, Made (stepL s) a) ∧ setsA (sRun (stepL s) s.em (bitsM s.la) labs (257 - st.rows.length) st) = rv) s0
  ⟨sOk0 labs, fun a ha => by simp only [s0, List.mem_singleton] at ha; subst ha; exact ⟨by simp, .inl rfl⟩, hrv⟩ ?_ ?_
 ·simp only [setsO, s0]
  (refine wk_mk ?_ ?_ ?_ <;> simp only [frm, List.foldl_cons, List.foldl_nil, List.replicate_succ, List.replicate_zero, WkT, WkO, AV.v.injEq, Value.int.injEq, Value.bool.injEq, Value.string.injEq, AV.vec.injEq, AV.ptr.injEq, true_or, or_true, false_or, or_false, AObj.mk.injEq, forall_eq_apply_imp_iff, forall_eq, forall_eq', go_sem])
  ·rfl
  ·exact ⟨rfl, rfl, wf_aRow _ _⟩
 ·rintro st ⟨hok, hmade, hrun⟩ K hK
  have h257 := hok.max
  have hel := hok.ends
  simp only [setsO]
  repeat (first | (with_reducible first | refine Stp.up ?_ | refine fun (K : AK) hK => ?_ | (refine hK _ ?_; clear hK K)) | simp only [go_sem] | with_reducible refine wA ?_ | clear hK K)
  refine AIf.part (fun h => ?_) (fun h => ?_)
  ·have hlt : st.rows.length < st.all.length := by (try simp only [bne_iff_ne, ne_eq, bne_eq_false_iff_eq, beq_iff_eq, beq_eq_false_iff_ne, decide_eq_true_eq, decide_eq_false_iff_not, Bool.not_eq_eq_eq_not, Int.natCast_inj, Int.ofNat_lt, Int.ofNat_le] at h); omega
   rw [show 257 - st.rows.length = (256 - st.rows.length) + 1 by have := hok.le; omega, sRun, if_pos hlt] at hrun
   repeat (first | (with_reducible first | refine Stp.up ?_ | refine fun (K : AK) hK => ?_ | (refine hK _ ?_; clear hK K)) | simp only [go_sem, h] | with_reducible refine wA ?_ | clear hK K)
   obtain ⟨hcm, hcl⟩ := made_small (hmade _ (getD_mem (d := []) hlt))
   rw [← sCur] at hcm hcl
   refine awp_loopO (ι := Nat) 38 (fun i => [(8, .vec 4 (sIns (stepL s) (sCur st) st.all (labs.take i)).1.length), (13, .undef), (14, .undef), (15, .undef), (16, .undef), (37, .v (.int .i64 i))]) (fun i => setsO s { st with all := (sIns (stepL s) (sCur st) st.all (labs.take i)).1 } ++ [some ⟨60, 0, false, mRow (sIns (stepL s) (sCur st) st.all (labs.take i)).2⟩]) (fun i => labs.length - i) (fun i => i ≤ labs.length) 0 (Nat.zero_le _) ?_ ?_
   ·simp only [setsO, List.take_zero, sIns, List.foldl_nil, mRow_nil, List.cons_append, List.nil_append]
    (refine wk_mk ?_ ?_ ?_ <;> simp only [frm, List.foldl_cons, List.foldl_nil, List.replicate_succ, List.replicate_zero, WkT, WkO, AV.v.injEq, Value.int.injEq, Value.bool.injEq, Value.string.injEq, AV.vec.injEq, AV.ptr.injEq, true_or, or_true, false_or, or_false, AObj.mk.injEq, forall_eq_apply_imp_iff, forall_eq, forall_eq', go_sem])
    all_goals rfl
   ·intro i hi K hK
    obtain ⟨k1, k2, k3, k4, k5, t, k6⟩ := sIns_ok (stepL s) (cur := sCur st) hok.nd (labs.take i)
    have hmd := sIns_made (stepL s) hmade (cur := sCur st) (labs.take i)
    have hlk : ∀ l, l ∉ labs.take i → look (sIns (stepL s) (sCur st) st.all (labs.take i)).2 l = none := fun l hl => look_none.2 fun q => hl (k5.subset q)
    rcases hRi : sIns (stepL s) (sCur st) st.all (labs.take i) with ⟨al, ro⟩
    rw [hRi] at k1 k2 k3 k4 k5 k6 hmd hlk
    simp only at k1 k2 k3 k4 k5 k6 hmd hlk
    have hal : al.length ≤ 2000 := by rw [List.length_take] at k4; omega
    simp only [setsO, List.cons_append, List.nil_append]
    repeat (first | (with_reducible first | refine Stp.up ?_ | refine fun (K : AK) hK => ?_ | (refine hK _ ?_; clear hK K)) | simp only [go_sem] | with_reducible refine wA ?_ | clear hK K)
    refine AIf.part (fun h2 => ?_) (fun h2 => ?_)
    ·have hli : i < labs.length := by (try simp only [bne_iff_ne, ne_eq, bne_eq_false_iff_eq, beq_iff_eq, beq_eq_false_iff_ne, decide_eq_true_eq, decide_eq_false_iff_not, Bool.not_eq_eq_eq_not, Int.natCast_inj, Int.ofNat_lt, Int.ofNat_le] at h2); omega
     have eW := wrap_succ (k := i) (by omega)
     have eG := getD_map encS labs i [] hli
     have eC : (al.map aRow).getD st.rows.length [] = [.slc 1 (encN (sCur st)) (sCur st).length] := by
      have hx : al.getD st.rows.length [] = sCur st := by rw [k6, getD_app_lt hlt]; rfl
      rw [List.getD_eq_getElem?_getD, List.getElem?_map, List.getElem?_eq_getElem (by omega)]
      rw [List.getD_eq_getElem?_getD, List.getElem?_eq_getElem (by omega)] at hx
      simp only [Option.map_some, Option.getD_some] at hx ⊢
      rw [hx]; rfl
     have hN := sIns_snoc (stepL s) (sCur st) st.all (labs.take i) labs[i]
     rw [← List.take_succ_eq_append_getElem hli, hRi, sIn] at hN
     have CS := stepL_c ok (sCur st) labs[i] (by omega)
     obtain ⟨ts, tl⟩ := bits_small (stepM s (fromM s (intsN (sCur st))) labs[i])
     have CKy := key_c (stepL s (sCur st) labs[i]) ts (by have : (stepL s (sCur st) labs[i]).length ≤ 1000 := tl; omega)
     have tl' : (stepL s (sCur st) labs[i]).length ≤ 1000 := tl
     generalize hto : stepL s (sCur st) labs[i] = to at *
     simp only [encS] at eG
     repeat (first | (with_reducible first | refine Stp.up ?_ | refine fun (K : AK) hK => ?_ | (refine hK _ ?_; clear hK K)) | simp only [go_sem, eG, eC, h2] | with_reducible refine wA ?_ | clear hK K)
     refine ACallV.one CS ?_
     repeat (first | (with_reducible first | refine Stp.up ?_ | refine fun (K : AK) hK => ?_ | (refine hK _ ?_; clear hK K)) | simp only [go_sem] | with_reducible refine wA ?_ | clear hK K)
     refine AIf.part (fun h3 => ?_) (fun h3 => ?_)
     ·have hz : to = [] := List.eq_nil_of_length_eq_zero (by (try simp only [bne_iff_ne, ne_eq, bne_eq_false_iff_eq, beq_iff_eq, beq_eq_false_iff_ne, decide_eq_true_eq, decide_eq_false_iff_not, Bool.not_eq_eq_eq_not, Int.natCast_inj, Int.ofNat_lt, Int.ofNat_le] at h3); omega)
      rw [if_pos hz] at hN
      repeat (first | (with_reducible first | refine Stp.up ?_ | refine fun (K : AK) hK => ?_ | (refine hK _ ?_; clear hK K)) | simp only [go_sem, eW] | with_reducible refine wA ?_ | clear hK K)
      refine LNext.mk (i + 1) (by omega) (by omega) ?_
      rw [hN]
      simp only [setsO, List.cons_append, List.nil_append]
      (refine wk_mk ?_ ?_ ?_ <;> simp only [frm, List.foldl_cons, List.foldl_nil, List.replicate_succ, List.replicate_zero, WkT, WkO, AV.v.injEq, Value.int.injEq, Value.bool.injEq, Value.string.injEq, AV.vec.injEq, AV.ptr.injEq, true_or, or_true, false_or, or_false, AObj.mk.injEq, forall_eq_apply_imp_iff, forall_eq, forall_eq', go_sem])
     ·have hz : ¬ to = [] := fun e => by subst e; simp at h3
      rw [if_neg hz] at hN
      have eA := aGet_k (keyB to) (al.map keyB)
      repeat (first | (with_reducible first | refine Stp.up ?_ | refine fun (K : AK) hK => ?_ | (refine hK _ ?_; clear hK K)) | simp only [go_sem] | with_reducible refine wA ?_ | clear hK K)
      refine ACallV.one CKy ?_
      cases hp : pos (al.map keyB) (keyB to) with
      | some k =>
       rw [hp] at hN eA
       simp only [Option.map_some] at eA hN
       have eS := aSet_r labs[i] k ro (hlk _ (nd_take hn hli))
       repeat (first | (with_reducible first | refine Stp.up ?_ | refine fun (K : AK) hK => ?_ | (refine hK _ ?_; clear hK K)) | simp only [go_sem, eA, eS, eW] | with_reducible refine wA ?_ | clear hK K)
       refine LNext.mk (i + 1) (by omega) (by omega) ?_
       rw [hN]
       simp only [setsO, List.cons_append, List.nil_append]
       (refine wk_mk ?_ ?_ ?_ <;> simp only [frm, List.foldl_cons, List.foldl_nil, List.replicate_succ, List.replicate_zero, WkT, WkO, AV.v.injEq, Value.int.injEq, Value.bool.injEq, Value.string.injEq, AV.vec.injEq, AV.ptr.injEq, true_or, or_true, false_or, or_false, AObj.mk.injEq, forall_eq_apply_imp_iff, forall_eq, forall_eq', go_sem])
      | none =>
       rw [hp] at hN eA
       simp only [Option.map_none] at eA hN
       have eS := aSet_r labs[i] al.length ro (hlk _ (nd_take hn hli))
       have eK := aSet_k (keyB to) (al.map keyB) hp
       rw [List.length_map] at eK
       repeat (first | (with_reducible first | refine Stp.up ?_ | refine fun (K : AK) hK => ?_ | (refine hK _ ?_; clear hK K)) | simp only [go_sem, eA, eS, eW] | with_reducible refine wA ?_ | clear hK K)
       refine ACallV.one CKy ?_
       repeat (first | (with_reducible first | refine Stp.up ?_ | refine fun (K : AK) hK => ?_ | (refine hK _ ?_; clear hK K)) | simp only [go_sem, eK, eS, eW] | with_reducible refine wA ?_ | clear hK K)
       refine LNext.mk (i + 1) (by omega) (by omega) ?_
       rw [hN]
       simp only [setsO, List.cons_append, List.nil_append, List.map_append, List.map_cons, List.map_nil, List.length_append, List.length_cons, List.length_nil]
       (refine wk_mk ?_ ?_ ?_ <;> simp only [frm, List.foldl_cons, List.foldl_nil, List.replicate_succ, List.replicate_zero, WkT, WkO, AV.v.injEq, Value.int.injEq, Value.bool.injEq, Value.string.injEq, AV.vec.injEq, AV.ptr.injEq, true_or, or_true, false_or, or_false, AObj.mk.injEq, forall_eq_apply_imp_iff, forall_eq, forall_eq', go_sem])
       all_goals exact ⟨rfl, wf_aRow _ _⟩
    ·have hil : i = labs.length := by (try simp only [bne_iff_ne, ne_eq, bne_eq_false_iff_eq, beq_iff_eq, beq_eq_false_iff_ne, decide_eq_true_eq, decide_eq_false_iff_not, Bool.not_eq_eq_eq_not, Int.natCast_inj, Int.ofNat_lt, Int.ofNat_le] at h2); omega
     rw [hil, List.take_length] at hRi
     have hall : (sNext (stepL s) s.em (bitsM s.la) labs st).all = al := by rw [sNext, hRi]
     have hrow : (sNext (stepL s) s.em (bitsM s.la) labs st).rows = st.rows ++ [ro] := by rw [sNext, hRi]
     rw [hall] at hrun
     repeat (first | (with_reducible first | refine Stp.up ?_ | refine fun (K : AK) hK => ?_ | (refine hK _ ?_; clear hK K)) | simp only [go_sem] | with_reducible refine wA ?_ | clear hK K)
     refine AIf.part (fun h3 => ?_) (fun h3 => ?_)
     ·rw [if_pos (by (try simp only [bne_iff_ne, ne_eq, bne_eq_false_iff_eq, beq_iff_eq, beq_eq_false_iff_ne, decide_eq_true_eq, decide_eq_false_iff_not, Bool.not_eq_eq_eq_not, Int.natCast_inj, Int.ofNat_lt, Int.ofNat_le] at h3); omega)] at hrun
      repeat (first | (with_reducible first | refine Stp.up ?_ | refine fun (K : AK) hK => ?_ | (refine hK _ ?_; clear hK K)) | simp only [go_sem] | with_reducible refine wA ?_ | clear hK K)
      rw [← hrun]
      exact FrzS.tup ⟨FrzS.v _, FrzS.v _, trivial⟩
     ·have h256 : ¬ 256 < al.length := by (try simp only [bne_iff_ne, ne_eq, bne_eq_false_iff_eq, beq_iff_eq, beq_eq_false_iff_ne, decide_eq_true_eq, decide_eq_false_iff_not, Bool.not_eq_eq_eq_not, Int.natCast_inj, Int.ofNat_lt, Int.ofNat_le] at h3); omega
      rw [if_neg h256] at hrun
      repeat ((fail_if_success (with_reducible refine stopR (i := 24) ?_)); first | (with_reducible first | refine Stp.up ?_ | refine fun (K : AK) hK => ?_ | (refine hK _ ?_; clear hK K)) | simp only [go_sem] | with_reducible refine wA ?_ | clear hK K)
      refine awp_turn (turn_freeM 11 8 rfl rfl rfl rfl) (by kernel_rfl) ?_
      simp only [List.set_cons_zero, List.set_cons_succ]
      repeat ((fail_if_success (with_reducible refine stopR (i := 25) ?_)); first | (with_reducible first | refine Stp.up ?_ | refine fun (K : AK) hK => ?_ | (refine hK _ ?_; clear hK K)) | simp only [go_sem] | with_reducible refine wA ?_ | clear hK K)
      have CF := containsFuncI_c (g := 30) [.vp [.slc 1 (encN (bitsM s.la)) (bitsM s.la).length]] (by simp only [wfL, AV.wf, wf_encNN, Bool.and_self]) (fun n => (bitsM s.la).contains n) (sCur st) (by omega) (fun n => isLast_c (bitsM s.la) n (by omega))
      have eC : (al.map aRow).getD st.rows.length [] = [.slc 1 (encN (sCur st)) (sCur st).length] := by
       have hx : al.getD st.rows.length [] = sCur st := by rw [k6, getD_app_lt hlt]; rfl
       rw [List.getD_eq_getElem?_getD, List.getElem?_map, List.getElem?_eq_getElem (by omega)]
       rw [List.getD_eq_getElem?_getD, List.getElem?_eq_getElem (by omega)] at hx
       simp only [Option.map_some, Option.getD_some] at hx ⊢
       rw [hx]; rfl
      have hE : sEnd s.em (bitsM s.la) st = (((st.rows.length : Int) == 0 && s.em) || (sCur st).any (fun n => (bitsM s.la).contains n)) := by
       rw [sEnd]; congr 2
       rw [Bool.eq_iff_iff, beq_iff_eq, beq_iff_eq]; omega
      refine awp_join ⟨frm 112 [(0, .vp (nfaV s)), (1, .slc 1 (labs.map encS) labs.length), (4, .v (.pointer none)), (5, .v (.bool false)), (6, .ptr 0 0 1 0 0), (7, .vec 1 0), (8, .vec 4 al.length), (9, .ptr 5 0 2 0 0), (10, .v (.int .i64 st.rows.length))], setsO s (sNext (stepL s) s.em (bitsM s.la) labs st), .no⟩ (by kernel_rfl) ?_ ?_
      ·have hO : setsO s (sNext (stepL s) s.em (bitsM s.la) labs st) = setsO s ⟨al, st.rows ++ [ro], st.ends ++ [sEnd s.em (bitsM s.la) st]⟩ := by rw [sNext, hRi]
       rw [hO]
       rcases (Bool.eq_false_or_eq_true ((st.rows.length : Int) == 0)).symm with hZ | hZ
       ·have hE2 : sEnd s.em (bitsM s.la) st = (sCur st).any (fun n => (bitsM s.la).contains n) := by rw [hE, hZ, Bool.false_and, Bool.false_or]
        simp only [setsO, List.map_append, List.map_cons, List.map_nil, List.length_append, List.length_cons, List.length_nil, hE2]
        (refine awp_drawZ 20 88 9 (by kernel_rfl) (by decide +kernel) (by kernel_rfl) ?_; simp only [edge, List.map_cons, List.map_nil, List.push_toArray, List.cons_append, List.nil_append, List.drop_succ_cons, List.drop_zero, List.take_succ_cons, List.take_zero])
        repeat (first | (with_reducible first | refine Stp.up ?_ | refine fun (K : AK) hK => ?_ | (refine hK _ ?_; clear hK K)) | simp only [go_sem, eC, hZ] | with_reducible refine wA ?_ | clear hK K)
        refine ACallS.frz CF 20 rfl (by simp only [go_sem, Nat.reduceLT, Nat.reduceLeDiff, Nat.reduceEqDiff, Nat.lt_add_one, Nat.zero_lt_one, and_self]) rfl ?_
        repeat (first | (with_reducible first | refine Stp.up ?_ | refine fun (K : AK) hK => ?_ | (refine hK _ ?_; clear hK K)) | simp only [go_sem, eC, hZ] | with_reducible refine wA ?_ | clear hK K)
        (refine wk_mk ?_ ?_ ?_ <;> simp only [frm, List.foldl_cons, List.foldl_nil, List.replicate_succ, List.replicate_zero, WkT, WkO, AV.v.injEq, Value.int.injEq, Value.bool.injEq, Value.string.injEq, AV.vec.injEq, AV.ptr.injEq, true_or, or_true, false_or, or_false, AObj.mk.injEq, forall_eq_apply_imp_iff, forall_eq, forall_eq', go_sem])
       ·rcases (Bool.eq_false_or_eq_true s.em).symm with hem | hem
        ·have hE2 : sEnd s.em (bitsM s.la) st = (sCur st).any (fun n => (bitsM s.la).contains n) := by rw [hE, hZ, hem]; simp
         simp only [setsO, List.map_append, List.map_cons, List.map_nil, List.length_append, List.length_cons, List.length_nil, hE2]
         (refine awp_drawZ 20 88 9 (by kernel_rfl) (by decide +kernel) (by kernel_rfl) ?_; simp only [edge, List.map_cons, List.map_nil, List.push_toArray, List.cons_append, List.nil_append, List.drop_succ_cons, List.drop_zero, List.take_succ_cons, List.take_zero])
         repeat (first | (with_reducible first | refine Stp.up ?_ | refine fun (K : AK) hK => ?_ | (refine hK _ ?_; clear hK K)) | simp only [go_sem, eC, hZ] | with_reducible refine wA ?_ | clear hK K)
         refine ACallS.one CE ?_
         repeat (first | (with_reducible first | refine Stp.up ?_ | refine fun (K : AK) hK => ?_ | (refine hK _ ?_; clear hK K)) | simp only [go_sem, eC, hem] | with_reducible refine wA ?_ | clear hK K)
         refine ACallS.frz CF 20 rfl (by simp only [go_sem, Nat.reduceLT, Nat.reduceLeDiff, Nat.reduceEqDiff, Nat.lt_add_one, Nat.zero_lt_one, and_self]) rfl ?_
         repeat (first | (with_reducible first | refine Stp.up ?_ | refine fun (K : AK) hK => ?_ | (refine hK _ ?_; clear hK K)) | simp only [go_sem, eC, hem] | with_reducible refine wA ?_ | clear hK K)
         (refine wk_mk ?_ ?_ ?_ <;> simp only [frm, List.foldl_cons, List.foldl_nil, List.replicate_succ, List.replicate_zero, WkT, WkO, AV.v.injEq, Value.int.injEq, Value.bool.injEq, Value.string.injEq, AV.vec.injEq, AV.ptr.injEq, true_or, or_true, false_or, or_false, AObj.mk.injEq, forall_eq_apply_imp_iff, forall_eq, forall_eq', go_sem])
        ·have hE2 : sEnd s.em (bitsM s.la) st = true := by rw [hE, hZ, hem]; simp
         simp only [setsO, List.map_append, List.map_cons, List.map_nil, List.length_append, List.length_cons, List.length_nil, hE2]
         (refine awp_drawZ 20 88 9 (by kernel_rfl) (by decide +kernel) (by kernel_rfl) ?_; simp only [edge, List.map_cons, List.map_nil, List.push_toArray, List.cons_append, List.nil_append, List.drop_succ_cons, List.drop_zero, List.take_succ_cons, List.take_zero])
         repeat (first | (with_reducible first | refine Stp.up ?_ | refine fun (K : AK) hK => ?_ | (refine hK _ ?_; clear hK K)) | simp only [go_sem, eC, hZ] | with_reducible refine wA ?_ | clear hK K)
         refine ACallS.one CE ?_
         repeat (first | (with_reducible first | refine Stp.up ?_ | refine fun (K : AK) hK => ?_ | (refine hK _ ?_; clear hK K)) | simp only [go_sem, eC, hem] | with_reducible refine wA ?_ | clear hK K)
         (refine wk_mk ?_ ?_ ?_ <;> simp only [frm, List.foldl_cons, List.foldl_nil, List.replicate_succ, List.replicate_zero, WkT, WkO, AV.v.injEq, Value.int.injEq, Value.bool.injEq, Value.string.injEq, AV.vec.injEq, AV.ptr.injEq, true_or, or_true, false_or, or_false, AObj.mk.injEq, forall_eq_apply_imp_iff, forall_eq, forall_eq', go_sem])
      ·have hlen : (sNext (stepL s) s.em (bitsM s.la) labs st).rows.length = st.rows.length + 1 := by rw [hrow, List.length_append, List.length_singleton]
       have eW := wrap_succ (k := st.rows.length) (by omega)
       obtain ⟨nx, hnx⟩ : ∃ nx, nx = sNext (stepL s) s.em (bitsM s.la) labs st := ⟨_, rfl⟩
       have hnok : SOk labs nx := hnx ▸ sNext_ok (stepL s) s.em (bitsM s.la) hok hlt (by rw [hall]; exact h256)
       rw [← hnx] at hrun hlen hall ⊢
       simp only [setsO]
       simp only [frm, List.foldl_cons, List.foldl_nil, List.replicate_succ, List.replicate_zero, go_sem]
       repeat (first | (with_reducible first | refine Stp.up ?_ | refine fun (K : AK) hK => ?_ | (refine hK _ ?_; clear hK K)) | simp only [go_sem, eW] | with_reducible refine wA ?_ | clear hK K)
       refine LNext.mk nx ⟨hnok, by rw [hall]; exact hmd, by rw [hlen, show 257 - (st.rows.length + 1) = 256 - st.rows.length by omega]; exact hrun⟩ (by rw [hlen]; have := hok.le; omega) ?_
       simp only [setsO, hall, hlen]
       (refine wk_mk ?_ ?_ ?_ <;> simp only [frm, List.foldl_cons, List.foldl_nil, List.replicate_succ, List.replicate_zero, WkT, WkO, AV.v.injEq, Value.int.injEq, Value.bool.injEq, Value.string.injEq, AV.vec.injEq, AV.ptr.injEq, true_or, or_true, false_or, or_false, AObj.mk.injEq, forall_eq_apply_imp_iff, forall_eq, forall_eq', go_sem])
  ·have hge : st.rows.length = st.all.length := by have := hok.le; (try simp only [bne_iff_ne, ne_eq, bne_eq_false_iff_eq, beq_iff_eq, beq_eq_false_iff_ne, decide_eq_true_eq, decide_eq_false_iff_not, Bool.not_eq_eq_eq_not, Int.natCast_inj, Int.ofNat_lt, Int.ofNat_le] at h); omega
   rw [show 257 - st.rows.length = (256 - st.rows.length) + 1 by omega, sRun, if_neg (by omega)] at hrun
   have hel := hok.ends
   repeat (first | (with_reducible first | refine Stp.up ?_ | refine fun (K : AK) hK => ?_ | (refine hK _ ?_; clear hK K)) | simp only [go_sem] | with_reducible refine wA ?_ | clear hK K)
   rw [← hrun]
   simp only [setsA, gV, hel]
   exact FrzS.tup ⟨FrzS.ptr (ob := ⟨54, 2, false, [[.vec 6 st.rows.length, .vec 7 st.rows.length]]⟩) rfl rfl rfl (Nat.succ_ne_zero 1) ⟨FrzS.vecP (ob := ⟨60, 1, true, st.rows.map (fun r => [.mp (mRow r)])⟩) rfl rfl (List.length_map _) (wf_gR _ _), FrzS.vecP (ob := ⟨4, 1, true, st.ends.map (fun b => [.v (.bool b)])⟩) rfl rfl ((List.length_map _).trans hel) (wf_gE _ _), trivial⟩, FrzS.v _, trivial⟩
end Go.Proofs.YtfflpdekojlnmaaDoor
