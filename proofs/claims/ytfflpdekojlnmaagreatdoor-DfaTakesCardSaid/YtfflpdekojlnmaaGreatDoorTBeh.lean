/- expr.walker: again, behind; expr.Takes: the walks. -/
import Derived.Test.YtfflpdekojlnmaaGreatDoorTRelG
import Derived.Test.YtfflpdekojlnmaaGreatDoorTConcat
import Derived.Test.YtfflpdekojlnmaaGreatDoorTAbsW
set_option linter.unusedSimpArgs false
set_option linter.unusedVariables false
namespace Go.Proofs.YtfflpdekojlnmaaGreatDoor
open Go.RowKit

theorem clone_c (l : List Nat) (hl : l.length ≤ 1000000) : Call1 Tryz.prog 81 [.slc 1 (encN l) l.length] (.slc 1 (encN l) l.length) := by
 by_cases h : l = []
 ·subst h; exact clone_0
 ·exact (clone_e l hl h).to1 8 rfl ⟨by simp [encN], by simp [encN], wf_encNN _ _⟩ (by simp only [go_sem]) (wf_encNN _ _)
def BehC (w : List ByteArray) (x : Ex) : Prop := ∀ fr : List Nat, fr.Pairwise (· < ·) → (∀ j, j ∈ fr → j ≤ w.length) → Call1 Tryz.prog 52 [.agg [strsA w], .agg (encE x), .slc 1 (encN fr) fr.length] (.slc 1 (encN (bh w (Lg x) fr)) (bh w (Lg x) fr).length)
set_option maxRecDepth 100000 in
set_option maxHeartbeats 4000000 in
theorem again_of (w : List ByteArray) (hw : w.length ≤ 100000) (x : Ex) (H : BehC w x) (fr : List Nat) (hr : fr.Pairwise (· < ·)) (hb : ∀ j, j ∈ fr → j ≤ w.length) :
  Call1 Tryz.prog 79 [.agg [strsA w], .agg (encE x), .slc 1 (encN fr) fr.length] (.slc 1 (encN (bh w (StarL (Lg x)) fr)) (bh w (StarL (Lg x)) fr).length) := by
 have hfl : fr.length ≤ w.length + 1 := rise_bound hr (fun j hj => by have := hb j hj; omega)
 have CL := clone_c fr (by omega)
 obtain ⟨k, s, l⟩ := x
 simp only [BehC, encE_eq, Ex.kind, Ex.label, Ex.kids, strsA] at H ⊢
 (refine Call1.enter Tryz.func79 rfl (by kernel_rfl) (by kernel_rfl) rfl (by first | rfl | (simp only [go_sem, Bool.and_self, Bool.and_true, Bool.true_and])) (by first | rfl | (simp only [go_sem, Bool.and_self, Bool.and_true, Bool.true_and])) ?_; simp only [Tryz.ntmps79, Tryz.results79, List.length_cons, List.length_nil, Nat.reduceAdd, Nat.reduceSub, List.replicate_succ, List.replicate_zero, List.cons_append, List.nil_append])
 repeat (first | (with_reducible first | refine Stp.up ?_ | refine fun (K : AK) hK => ?_ | (refine hK _ ?_; clear hK K)) | simp only [go_sem] | clear hK K)
 refine ACallV.one CL ?_
 repeat (first | (with_reducible first | refine Stp.up ?_ | refine fun (K : AK) hK => ?_ | (refine hK _ ?_; clear hK K)) | simp only [go_sem] | clear hK K)
 refine awp_loopK (ι := List Nat) 9 (fun out => [(7, .slc 1 (encN out) out.length), (8, .undef)]) (fun out => w.length + 1 - out.length) (fun out => AgI w (Lg (.mk k s l)) fr out) fr (.start hr hb) ?_ ?_
 ·(refine wk_mk ?_ ?_ ?_ <;> simp only [frm, List.foldl_cons, List.foldl_nil, List.replicate_succ, List.replicate_zero, WkT, WkO, AV.v.injEq, Value.int.injEq, Value.bool.injEq, Value.string.injEq, AV.vec.injEq, AV.ptr.injEq, true_or, or_true, false_or, or_false, AObj.mk.injEq, forall_eq_apply_imp_iff, forall_eq, forall_eq', go_sem])
 rintro out hI K hK
 have hol : out.length ≤ w.length + 1 := rise_bound hI.rise (fun j hj => by have := hI.le j hj; omega)
 have HX := H out hI.rise hI.le
 have hbl := bh_len w (Lg (.mk k s l)) out
 obtain ⟨n1, n2, n3, n4⟩ := hI.next
 generalize bh w (Lg (.mk k s l)) out = be at HX hbl n1 n2 n3 n4
 have CC := concat_v out be (by omega) (by omega)
 have AA := all_e (out ++ be) (by simp; omega)
 generalize srt (out ++ be) = nx at n1 n2 n3 n4 AA
 generalize out ++ be = cb at CC AA
 repeat (first | (with_reducible first | refine Stp.up ?_ | refine fun (K : AK) hK => ?_ | (refine hK _ ?_; clear hK K)) | simp only [go_sem] | clear hK K)
 refine ACallV.one HX ?_
 repeat (first | (with_reducible first | refine Stp.up ?_ | refine fun (K : AK) hK => ?_ | (refine hK _ ?_; clear hK K)) | simp only [go_sem] | clear hK K)
 have eC : (encN cb).length = cb.length := by simp [encN]
 have eN : (encN nx).length = nx.length := by simp [encN]
 have eZ : ∀ f l, renR f (encN l) = encN l := fun f l => renR_wf0 _ _ (wf_encNN _ _)
 refine ACallV.fr [2] CC (by simp) ?_ ?_ ?_ ?_ ?_
 ·simp only [List.map_cons, List.map_nil, List.getElem?_cons_zero, List.getElem?_cons_succ, Option.map_some, AObj.ren, renR, renL, AV.ren, eZ]
 ·rfl
 ·rfl
 ·intro j ob hj
  match j, hj with
  | 0, hj => cases hj; simp only [go_sem, Bool.and_self]
  | j + 1, hj => simp at hj
 repeat (first | (with_reducible first | refine Stp.up ?_ | refine fun (K : AK) hK => ?_ | (refine hK _ ?_; clear hK K)) | simp only [go_sem] | clear hK K)
 refine ACallV.fr [3] AA (by simp) ?_ ?_ ?_ ?_ ?_
 ·simp only [List.map_cons, List.map_nil, List.getElem?_cons_zero, List.getElem?_cons_succ, Option.map_some, AObj.ren, eZ]
 ·rfl
 ·rfl
 ·intro j ob hj
  match j, hj with
  | 0, hj => cases hj; exact wf_encNN _ _
  | j + 1, hj => simp at hj
 repeat ((fail_if_success (with_reducible refine stopR (i := 3) ?_)); first | (with_reducible first | refine Stp.up ?_ | refine fun (K : AK) hK => ?_ | (refine hK _ ?_; clear hK K)) | simp only [go_sem] | clear hK K)
 (try simp only [eZ])
 refine awp_turn (turn_free 8 4 rfl rfl rfl eN) (by kernel_rfl) ?_
 by_cases he : nx.length = out.length
 ·have hd : ((nx.length : Int) == (out.length : Int)) = true := beq_iff_eq.2 (by omega)
  have hO := n4 he
  repeat (first | (with_reducible first | refine Stp.up ?_ | refine fun (K : AK) hK => ?_ | (refine hK _ ?_; clear hK K)) | simp only [go_sem, hd] | clear hK K)
  rw [← hO]
  (refine AFz.of 40 rfl ?_; simp only [go_sem])
 ·have hd : ((nx.length : Int) == (out.length : Int)) = false := beq_eq_false_iff_ne.2 (by omega)
  repeat (first | (with_reducible first | refine Stp.up ?_ | refine fun (K : AK) hK => ?_ | (refine hK _ ?_; clear hK K)) | simp only [go_sem, hd] | clear hK K)
  exact LNext.mk nx n1 (by omega) (by (refine wk_mk ?_ ?_ ?_ <;> simp only [frm, List.foldl_cons, List.foldl_nil, List.replicate_succ, List.replicate_zero, WkT, WkO, AV.v.injEq, Value.int.injEq, Value.bool.injEq, Value.string.injEq, AV.vec.injEq, AV.ptr.injEq, true_or, or_true, false_or, or_false, AObj.mk.injEq, forall_eq_apply_imp_iff, forall_eq, forall_eq', go_sem]))
set_option maxRecDepth 100000 in
set_option maxHeartbeats 8000000 in
theorem behind_lab (w : List ByteArray) (hw : w.length ≤ 100000) (s : ByteArray) : BehC w (.mk 1 s []) := by
 intro fr hr hb
 have hfl : fr.length ≤ w.length + 1 := rise_bound hr (fun j hj => by have := hb j hj; omega)
 have eO := labF_ok w s [] fr
 simp only [encE_eq, Ex.kind, Ex.label, Ex.kids, strsA]
 (refine Call1.enter Tryz.func52 rfl (by kernel_rfl) (by kernel_rfl) rfl (by first | rfl | (simp only [go_sem, Bool.and_self, Bool.and_true, Bool.true_and])) (by first | rfl | (simp only [go_sem, Bool.and_self, Bool.and_true, Bool.true_and])) ?_; simp only [Tryz.ntmps52, Tryz.results52, List.length_cons, List.length_nil, Nat.reduceAdd, Nat.reduceSub, List.replicate_succ, List.replicate_zero, List.cons_append, List.nil_append])
 repeat (first | (with_reducible first | refine Stp.up ?_ | refine fun (K : AK) hK => ?_ | refine wD ?_ | (refine hK _ ?_; clear hK K)) | simp only [go_sem] | with_reducible refine wA ?_ | clear hK K)
 refine awp_loopV (ι := Nat) 6 3 1 rfl (by decide) 19 (fun i => [(6, .vec 2 (labF w s (fr.take i)).length), (8, .undef), (19, .v (.int .i64 i))]) (fun i => [some ⟨93, 1, false, [[.slc 1 (w.map encS) w.length]]⟩, some ⟨25, 3, false, [[.v (.int .i64 1), .v (.string s), .slc 3 [] 0]]⟩, some ⟨3, 1, true, encN (labF w s (fr.take i))⟩]) (fun i => fr.length - i) (fun i => i ≤ fr.length) 0 (Nat.zero_le _) ?_ ?_
 ·(refine wk_mk ?_ ?_ ?_ <;> simp only [frm, List.foldl_cons, List.foldl_nil, List.replicate_succ, List.replicate_zero, WkT, WkO, AV.v.injEq, Value.int.injEq, Value.bool.injEq, Value.string.injEq, AV.vec.injEq, AV.ptr.injEq, true_or, or_true, false_or, or_false, AObj.mk.injEq, forall_eq_apply_imp_iff, forall_eq, forall_eq', go_sem])
  ·exact ⟨rfl, rfl⟩
  ·rfl
 rintro i hi K hK
 have hol : (labF w s (fr.take i)).length ≤ 1000000 := by
  have h1 : (labF w s (fr.take i)).length ≤ (fr.take i).length := by rw [labF, List.length_map]; exact List.length_filter_le _ _
  simp at h1; omega
 have eL : (encN (labF w s (fr.take i))).length = (labF w s (fr.take i)).length := by simp [encN]
 repeat (first | (with_reducible first | refine Stp.up ?_ | refine fun (K : AK) hK => ?_ | refine wD ?_ | (refine hK _ ?_; clear hK K)) | simp only [go_sem] | with_reducible refine wA ?_ | clear hK K)
 refine AIf.part (fun h => ?_) (fun h => ?_)
 ·have hlt : i < fr.length := by (try simp only [bne_iff_ne, ne_eq, bne_eq_false_iff_eq, beq_iff_eq, beq_eq_false_iff_ne, decide_eq_true_eq, decide_eq_false_iff_not, Bool.not_eq_eq_eq_not, Int.natCast_inj, Int.ofNat_lt, Int.ofNat_le] at h); omega
  have eW := wrap_succ (k := i) (by omega)
  have eG : (encN fr).getD i [] = [.v (.int .i64 (fr[i] : Nat))] := by rw [encN, getD_map _ fr i [] hlt]
  have eS := labF_snoc w s fr i hlt
  have hfb := hb fr[i] (List.getElem_mem hlt)
  generalize fr[i] = k at eG eS hfb
  generalize labF w s (fr.take i) = out at hol eS eL ⊢
  by_cases hk : k < w.length
  ·have hd : decide ((w.length : Int) ≤ (k : Int)) = false := decide_eq_false (by omega)
   have eK := getD_map encS w k [] hk
   simp only [encS] at eK
   rw [List.getElem?_eq_getElem hk] at eS
   generalize w[k] = u at eK eS
   have eW2 : IntKind.i64.wrap ((k : Int) + 1) = ((k + 1 : Nat) : Int) := wrap_succ (by omega)
   repeat (first | (with_reducible first | refine Stp.up ?_ | refine fun (K : AK) hK => ?_ | refine wD ?_ | (refine hK _ ?_; clear hK K)) | simp only [go_sem, eG, hd, eK] | with_reducible refine wA ?_ | clear hK K)
   refine AIf.part (fun h2 => ?_) (fun h2 => ?_)
   ·have hus : u = s := seqb_iff.1 h2
    rw [if_pos (by rw [hus])] at eS
    have eA : encN (out ++ [k + 1]) = encN out ++ [[.v (.int .i64 (k + 1 : Nat))]] := by simp [encN]
    repeat (first | (with_reducible first | refine Stp.up ?_ | refine fun (K : AK) hK => ?_ | refine wD ?_ | (refine hK _ ?_; clear hK K)) | simp only [go_sem, eW, eW2, eL] | with_reducible refine wA ?_ | clear hK K)
    exact LNext.mk (i + 1) (by omega) (by omega) (by
     simp only [eS, eA, List.length_append, List.length_cons, List.length_nil]
     (refine wk_mk ?_ ?_ ?_ <;> simp only [frm, List.foldl_cons, List.foldl_nil, List.replicate_succ, List.replicate_zero, WkT, WkO, AV.v.injEq, Value.int.injEq, Value.bool.injEq, Value.string.injEq, AV.vec.injEq, AV.ptr.injEq, true_or, or_true, false_or, or_false, AObj.mk.injEq, forall_eq_apply_imp_iff, forall_eq, forall_eq', go_sem]))
   ·have hus : u ≠ s := fun e => by rw [e] at h2; simp at h2
    rw [if_neg (fun e => hus (Option.some.inj e)), List.append_nil] at eS
    repeat (first | (with_reducible first | refine Stp.up ?_ | refine fun (K : AK) hK => ?_ | refine wD ?_ | (refine hK _ ?_; clear hK K)) | simp only [go_sem, eW] | with_reducible refine wA ?_ | clear hK K)
    exact LNext.mk (i + 1) (by omega) (by omega) (by simp only [eS]; (refine wk_mk ?_ ?_ ?_ <;> simp only [frm, List.foldl_cons, List.foldl_nil, List.replicate_succ, List.replicate_zero, WkT, WkO, AV.v.injEq, Value.int.injEq, Value.bool.injEq, Value.string.injEq, AV.vec.injEq, AV.ptr.injEq, true_or, or_true, false_or, or_false, AObj.mk.injEq, forall_eq_apply_imp_iff, forall_eq, forall_eq', go_sem]))
  ·have hd : decide ((w.length : Int) ≤ (k : Int)) = true := decide_eq_true (by omega)
   rw [List.getElem?_eq_none (by omega), if_neg (by simp), List.append_nil] at eS
   repeat (first | (with_reducible first | refine Stp.up ?_ | refine fun (K : AK) hK => ?_ | refine wD ?_ | (refine hK _ ?_; clear hK K)) | simp only [go_sem, eG, hd, eW, Go.undef] | with_reducible refine wA ?_ | clear hK K)
   exact LNext.mk (i + 1) (by omega) (by omega) (by simp only [eS]; (refine wk_mk ?_ ?_ ?_ <;> simp only [frm, List.foldl_cons, List.foldl_nil, List.replicate_succ, List.replicate_zero, WkT, WkO, AV.v.injEq, Value.int.injEq, Value.bool.injEq, Value.string.injEq, AV.vec.injEq, AV.ptr.injEq, true_or, or_true, false_or, or_false, AObj.mk.injEq, forall_eq_apply_imp_iff, forall_eq, forall_eq', go_sem]))
 ·have hie : i = fr.length := by (try simp only [bne_iff_ne, ne_eq, bne_eq_false_iff_eq, beq_iff_eq, beq_eq_false_iff_ne, decide_eq_true_eq, decide_eq_false_iff_not, Bool.not_eq_eq_eq_not, Int.natCast_inj, Int.ofNat_lt, Int.ofNat_le] at h); omega
  have e1 : fr.take i = fr := by rw [hie, List.take_length]
  rw [e1] at hol
  repeat ((fail_if_success (with_reducible refine stopR (i := 28) ?_)); first | (with_reducible first | refine Stp.up ?_ | refine fun (K : AK) hK => ?_ | (refine hK _ ?_; clear hK K)) | simp only [go_sem, e1] | with_reducible refine wA ?_ | clear hK K)
  generalize labF w s fr = out at hol eO ⊢
  have ho := hol
  refine awp_turn (turn_free 6 2 rfl rfl rfl (by simp [encN])) (by kernel_rfl) ?_
  rcases List.eq_nil_or_concat out with hO | ⟨out0, z0, hO⟩
  ·subst hO
   have C0 := clone_0
   have A0 := all_0
   have e0 : encN [] = [] := rfl
   simp only [e0, List.length_nil]
   repeat (first | (with_reducible first | refine Stp.up ?_ | refine fun (K : AK) hK => ?_ | refine wD ?_ | (refine hK _ ?_; clear hK K)) | simp only [go_sem] | with_reducible refine wA ?_ | clear hK K)
   refine ACallV.one C0 ?_
   repeat (first | (with_reducible first | refine Stp.up ?_ | refine fun (K : AK) hK => ?_ | refine wD ?_ | (refine hK _ ?_; clear hK K)) | simp only [go_sem] | with_reducible refine wA ?_ | clear hK K)
   refine ACallV.one A0 ?_
   repeat (first | (with_reducible first | refine Stp.up ?_ | refine fun (K : AK) hK => ?_ | refine wD ?_ | (refine hK _ ?_; clear hK K)) | simp only [go_sem] | with_reducible refine wA ?_ | clear hK K)
   rw [← eO]
   (refine AFz.of 40 rfl ?_; simp only [go_sem])
  ·have hne : out ≠ [] := by rw [hO]; simp
   have CL := clone_e out ho hne
   have AA := all_e out ho
   have eN : (encN (srt out)).length = (srt out).length := by simp [encN]
   have eZ : ∀ f l, renR f (encN l) = encN l := fun f l => renR_wf0 _ _ (wf_encNN _ _)
   repeat (first | (with_reducible first | refine Stp.up ?_ | refine fun (K : AK) hK => ?_ | refine wD ?_ | (refine hK _ ?_; clear hK K)) | simp only [go_sem] | with_reducible refine wA ?_ | clear hK K)
   refine ACallV.fr [] CL (by simp) ?_ ?_ ?_ ?_ ?_
   ·rfl
   ·exact (renL_wf0 _ _ (by simp only [go_sem])).symm
   ·simp only [List.length_nil, go_sem]
   ·intro k ob hk; simp at hk
   repeat (first | (with_reducible first | refine Stp.up ?_ | refine fun (K : AK) hK => ?_ | refine wD ?_ | (refine hK _ ?_; clear hK K)) | simp only [go_sem] | with_reducible refine wA ?_ | clear hK K)
   refine ACallV.fr [3] AA (by simp) ?_ ?_ ?_ ?_ ?_
   ·simp only [List.map_cons, List.map_nil, List.getElem?_cons_zero, List.getElem?_cons_succ, Option.map_some, AObj.ren, eZ]
   ·rfl
   ·rfl
   ·intro j ob hj
    match j, hj with
    | 0, hj => cases hj; exact wf_encNN _ _
    | j + 1, hj => simp at hj
   repeat (first | (with_reducible first | refine Stp.up ?_ | refine fun (K : AK) hK => ?_ | refine wD ?_ | (refine hK _ ?_; clear hK K)) | simp only [go_sem] | with_reducible refine wA ?_ | clear hK K)
   rw [← eO]
   (try simp only [eZ])
   (refine AFz.of 40 rfl ?_; simp only [go_sem])
   exact eN
set_option maxRecDepth 100000 in
set_option maxHeartbeats 8000000 in
theorem behind_seq (w : List ByteArray) (hw : w.length ≤ 100000) (s : ByteArray) (l : List Ex) (hl : l.length ≤ 1000000) (H : ∀ x, x ∈ l → BehC w x) : BehC w (.mk 2 s l) := by
 intro fr hr hb
 have hfl : fr.length ≤ w.length + 1 := rise_bound hr (fun j hj => by have := hb j hj; omega)
 have hst := bh_nil hr hb
 simp only [encE_eq, Ex.kind, Ex.label, Ex.kids, strsA]
 (refine Call1.enter Tryz.func52 rfl (by kernel_rfl) (by kernel_rfl) rfl (by first | rfl | (simp only [go_sem, Bool.and_self, Bool.and_true, Bool.true_and])) (by first | rfl | (simp only [go_sem, Bool.and_self, Bool.and_true, Bool.true_and])) ?_; simp only [Tryz.ntmps52, Tryz.results52, List.length_cons, List.length_nil, Nat.reduceAdd, Nat.reduceSub, List.replicate_succ, List.replicate_zero, List.cons_append, List.nil_append])
 repeat (first | (with_reducible first | refine Stp.up ?_ | refine fun (K : AK) hK => ?_ | (refine hK _ ?_; clear hK K)) | simp only [go_sem] | with_reducible refine wA ?_ | clear hK K)
 refine awp_loopO (ι := Nat) 50 (fun i => [(6, .slc 1 (encN (bh w (LgSeq (l.take i)) fr)) (bh w (LgSeq (l.take i)) fr).length), (10, .undef), (50, .v (.int .i64 i))]) (fun i => [some ⟨93, 1, false, [[.slc 1 (w.map encS) w.length]]⟩, some ⟨25, 3, false, [[.v (.int .i64 2), .v (.string s), .slc 3 (l.map encE) l.length]]⟩]) (fun i => l.length - i) (fun i => i ≤ l.length) 0 (Nat.zero_le _) ?_ ?_
 ·(refine wk_mk ?_ ?_ ?_ <;> simp only [frm, List.foldl_cons, List.foldl_nil, List.replicate_succ, List.replicate_zero, WkT, WkO, AV.v.injEq, Value.int.injEq, Value.bool.injEq, Value.string.injEq, AV.vec.injEq, AV.ptr.injEq, true_or, or_true, false_or, or_false, AObj.mk.injEq, forall_eq_apply_imp_iff, forall_eq, forall_eq', go_sem])
  exact ⟨by rw [hst], rfl⟩
 rintro i hi K hK
 repeat (first | (with_reducible first | refine Stp.up ?_ | refine fun (K : AK) hK => ?_ | (refine hK _ ?_; clear hK K)) | simp only [go_sem] | with_reducible refine wA ?_ | clear hK K)
 refine AIf.part (fun h => ?_) (fun h => ?_)
 ·have hlt : i < l.length := by (try simp only [decide_eq_true_eq, decide_eq_false_iff_not, Int.ofNat_lt] at h); omega
  have eW := wrap_succ (k := i) (by omega)
  have eG := getD_map encE l i [] hlt
  have HX := H l[i] (List.getElem_mem hlt) (bh w (LgSeq (l.take i)) fr) (bh_rise _ _ _) (fun j hj => bh_le hj)
  have eS := bh_snoc w (l.take i) l[i] fr
  rw [← List.take_succ_eq_append_getElem hlt] at eS
  rw [eS] at HX
  simp only [encE_eq, strsA] at HX eG
  repeat (first | (with_reducible first | refine Stp.up ?_ | refine fun (K : AK) hK => ?_ | (refine hK _ ?_; clear hK K)) | simp only [go_sem, eG, encE_eq] | with_reducible refine wA ?_ | clear hK K)
  refine ACallV.one HX ?_
  repeat (first | (with_reducible first | refine Stp.up ?_ | refine fun (K : AK) hK => ?_ | (refine hK _ ?_; clear hK K)) | simp only [go_sem, eW] | with_reducible refine wA ?_ | clear hK K)
  exact LNext.mk (i + 1) (by omega) (by omega) (by (refine wk_mk ?_ ?_ ?_ <;> simp only [frm, List.foldl_cons, List.foldl_nil, List.replicate_succ, List.replicate_zero, WkT, WkO, AV.v.injEq, Value.int.injEq, Value.bool.injEq, Value.string.injEq, AV.vec.injEq, AV.ptr.injEq, true_or, or_true, false_or, or_false, AObj.mk.injEq, forall_eq_apply_imp_iff, forall_eq, forall_eq', go_sem]))
 ·have hie : i = l.length := by (try simp only [decide_eq_true_eq, decide_eq_false_iff_not, Int.ofNat_lt] at h); omega
  have e1 : l.take i = l := by rw [hie, List.take_length]
  repeat ((fail_if_success (with_reducible refine stopR (i := 28) ?_)); first | (with_reducible first | refine Stp.up ?_ | refine fun (K : AK) hK => ?_ | (refine hK _ ?_; clear hK K)) | simp only [go_sem, e1] | with_reducible refine wA ?_ | clear hK K)
  have eO : srt (bh w (LgSeq l) fr) = bh w (Lg (.mk 2 s l)) fr := by rw [srt_bh, bh_congr (Lg2 s l)]
  have ho : (bh w (LgSeq l) fr).length ≤ 1000000 := by have := bh_len w (LgSeq l) fr; omega
  generalize bh w (LgSeq l) fr = out at eO ho ⊢
  rcases List.eq_nil_or_concat out with hO | ⟨out0, z0, hO⟩
  ·subst hO
   have C0 := clone_0
   have A0 := all_0
   have e0 : encN [] = [] := rfl
   simp only [e0, List.length_nil]
   repeat (first | (with_reducible first | refine Stp.up ?_ | refine fun (K : AK) hK => ?_ | (refine hK _ ?_; clear hK K)) | simp only [go_sem] | with_reducible refine wA ?_ | clear hK K)
   refine ACallV.one C0 ?_
   repeat (first | (with_reducible first | refine Stp.up ?_ | refine fun (K : AK) hK => ?_ | (refine hK _ ?_; clear hK K)) | simp only [go_sem] | with_reducible refine wA ?_ | clear hK K)
   refine ACallV.one A0 ?_
   repeat (first | (with_reducible first | refine Stp.up ?_ | refine fun (K : AK) hK => ?_ | (refine hK _ ?_; clear hK K)) | simp only [go_sem] | with_reducible refine wA ?_ | clear hK K)
   rw [← eO]
   (refine AFz.of 40 rfl ?_; simp only [go_sem])
  ·have hne : out ≠ [] := by rw [hO]; simp
   have CL := clone_e out ho hne
   have AA := all_e out ho
   have eN : (encN (srt out)).length = (srt out).length := by simp [encN]
   have eZ : ∀ f l, renR f (encN l) = encN l := fun f l => renR_wf0 _ _ (wf_encNN _ _)
   repeat (first | (with_reducible first | refine Stp.up ?_ | refine fun (K : AK) hK => ?_ | (refine hK _ ?_; clear hK K)) | simp only [go_sem] | with_reducible refine wA ?_ | clear hK K)
   refine ACallV.fr [] CL (by simp) ?_ ?_ ?_ ?_ ?_
   ·rfl
   ·exact (renL_wf0 _ _ (by simp only [go_sem])).symm
   ·simp only [List.length_nil, go_sem]
   ·intro k ob hk; simp at hk
   repeat (first | (with_reducible first | refine Stp.up ?_ | refine fun (K : AK) hK => ?_ | (refine hK _ ?_; clear hK K)) | simp only [go_sem] | with_reducible refine wA ?_ | clear hK K)
   refine ACallV.fr [2] AA (by simp) ?_ ?_ ?_ ?_ ?_
   ·simp only [List.map_cons, List.map_nil, List.getElem?_cons_zero, List.getElem?_cons_succ, Option.map_some, AObj.ren, eZ]
   ·rfl
   ·rfl
   ·intro j ob hj
    match j, hj with
    | 0, hj => cases hj; exact wf_encNN _ _
    | j + 1, hj => simp at hj
   repeat (first | (with_reducible first | refine Stp.up ?_ | refine fun (K : AK) hK => ?_ | (refine hK _ ?_; clear hK K)) | simp only [go_sem] | with_reducible refine wA ?_ | clear hK K)
   rw [← eO]
   (try simp only [eZ])
   (refine AFz.of 40 rfl ?_; simp only [go_sem])
   exact eN
theorem flat_le (w : List ByteArray) (fr : List Nat) : ∀ l : List Ex, (l.flatMap (fun x => bh w (Lg x) fr)).length ≤ l.length * (w.length + 1)
 | [] => by simp
 | x :: l => by
  have h1 := flat_le w fr l
  have h2 := bh_len w (Lg x) fr
  rw [List.flatMap_cons, List.length_append, List.length_cons, Nat.add_mul, Nat.one_mul]; omega
set_option maxRecDepth 100000 in
set_option maxHeartbeats 8000000 in
theorem behind_alt (w : List ByteArray) (hw : w.length ≤ 1000) (s : ByteArray) (l : List Ex) (hl : l.length ≤ 900) (H : ∀ x, x ∈ l → BehC w x) : BehC w (.mk 3 s l) := by
 intro fr hr hb
 have hfl : fr.length ≤ w.length + 1 := rise_bound hr (fun j hj => by have := hb j hj; omega)
 simp only [encE_eq, Ex.kind, Ex.label, Ex.kids, strsA]
 (refine Call1.enter Tryz.func52 rfl (by kernel_rfl) (by kernel_rfl) rfl (by first | rfl | (simp only [go_sem, Bool.and_self, Bool.and_true, Bool.true_and])) (by first | rfl | (simp only [go_sem, Bool.and_self, Bool.and_true, Bool.true_and])) ?_; simp only [Tryz.ntmps52, Tryz.results52, List.length_cons, List.length_nil, Nat.reduceAdd, Nat.reduceSub, List.replicate_succ, List.replicate_zero, List.cons_append, List.nil_append])
 repeat (first | (with_reducible first | refine Stp.up ?_ | refine fun (K : AK) hK => ?_ | (refine hK _ ?_; clear hK K)) | simp only [go_sem] | with_reducible refine wA ?_ | clear hK K)
 refine awp_loopV (ι := Nat) 6 3 1 rfl (by decide) 64 (fun i => [(6, .vec 2 ((l.take i).flatMap (fun x => bh w (Lg x) fr)).length), (12, .undef), (64, .v (.int .i64 i))]) (fun i => [some ⟨93, 1, false, [[.slc 1 (w.map encS) w.length]]⟩, some ⟨25, 3, false, [[.v (.int .i64 3), .v (.string s), .slc 3 (l.map encE) l.length]]⟩, some ⟨3, 1, true, encN ((l.take i).flatMap (fun x => bh w (Lg x) fr))⟩]) (fun i => l.length - i) (fun i => i ≤ l.length) 0 (Nat.zero_le _) ?_ ?_
 ·(refine wk_mk ?_ ?_ ?_ <;> simp only [frm, List.foldl_cons, List.foldl_nil, List.replicate_succ, List.replicate_zero, WkT, WkO, AV.v.injEq, Value.int.injEq, Value.bool.injEq, Value.string.injEq, AV.vec.injEq, AV.ptr.injEq, true_or, or_true, false_or, or_false, AObj.mk.injEq, forall_eq_apply_imp_iff, forall_eq, forall_eq', go_sem])
  ·exact ⟨rfl, rfl⟩
  ·rfl
 rintro i hi K hK
 have hol : ((l.take i).flatMap (fun x => bh w (Lg x) fr)).length ≤ 1000000 := by
  have h1 := flat_le w fr (l.take i)
  have h2 : (l.take i).length ≤ 900 := by simp; omega
  have h3 : (l.take i).length * (w.length + 1) ≤ 900 * 1001 := Nat.mul_le_mul h2 (by omega)
  omega
 repeat (first | (with_reducible first | refine Stp.up ?_ | refine fun (K : AK) hK => ?_ | (refine hK _ ?_; clear hK K)) | simp only [go_sem] | with_reducible refine wA ?_ | clear hK K)
 refine AIf.part (fun h => ?_) (fun h => ?_)
 ·have hlt : i < l.length := by (try simp only [decide_eq_true_eq, decide_eq_false_iff_not, Int.ofNat_lt] at h); omega
  have eW := wrap_succ (k := i) (by omega)
  have eG := getD_map encE l i [] hlt
  have HX := H l[i] (List.getElem_mem hlt) fr hr hb
  have hbl := bh_len w (Lg l[i]) fr
  have eS : (l.take (i + 1)).flatMap (fun x => bh w (Lg x) fr) = (l.take i).flatMap (fun x => bh w (Lg x) fr) ++ bh w (Lg l[i]) fr := by rw [List.take_succ_eq_append_getElem hlt, List.flatMap_append]; simp
  simp only [encE_eq, strsA] at HX eG
  generalize bh w (Lg l[i]) fr = be at HX hbl eS
  generalize (l.take i).flatMap (fun x => bh w (Lg x) fr) = out at hol eS ⊢
  have eL : (encN out).length = out.length := by simp [encN]
  have eB : (encN be).length = be.length := by simp [encN]
  have eT : (encN be).take be.length = encN be := List.take_of_length_le (by omega)
  have eA : encN (out ++ be) = encN out ++ encN be := by simp [encN]
  repeat (first | (with_reducible first | refine Stp.up ?_ | refine fun (K : AK) hK => ?_ | (refine hK _ ?_; clear hK K)) | simp only [go_sem, eG, encE_eq] | with_reducible refine wA ?_ | clear hK K)
  refine ACallV.one HX ?_
  repeat (first | (with_reducible first | refine Stp.up ?_ | refine fun (K : AK) hK => ?_ | (refine hK _ ?_; clear hK K)) | simp only [go_sem, eW, eL, eB, eT] | with_reducible refine wA ?_ | clear hK K)
  exact LNext.mk (i + 1) (by omega) (by omega) (by
   simp only [eS, eA, List.length_append]
   (refine wk_mk ?_ ?_ ?_ <;> simp only [frm, List.foldl_cons, List.foldl_nil, List.replicate_succ, List.replicate_zero, WkT, WkO, AV.v.injEq, Value.int.injEq, Value.bool.injEq, Value.string.injEq, AV.vec.injEq, AV.ptr.injEq, true_or, or_true, false_or, or_false, AObj.mk.injEq, forall_eq_apply_imp_iff, forall_eq, forall_eq', go_sem]))
 ·have hie : i = l.length := by (try simp only [decide_eq_true_eq, decide_eq_false_iff_not, Int.ofNat_lt] at h); omega
  have e1 : l.take i = l := by rw [hie, List.take_length]
  rw [e1] at hol
  repeat ((fail_if_success (with_reducible refine stopR (i := 28) ?_)); first | (with_reducible first | refine Stp.up ?_ | refine fun (K : AK) hK => ?_ | (refine hK _ ?_; clear hK K)) | simp only [go_sem, e1] | with_reducible refine wA ?_ | clear hK K)
  have eO : srt (l.flatMap (fun x => bh w (Lg x) fr)) = bh w (Lg (.mk 3 s l)) fr := by rw [alt_ok, bh_congr (Lg3 s l)]
  generalize l.flatMap (fun x => bh w (Lg x) fr) = out at eO hol ⊢
  have ho := hol
  refine awp_turn (turn_free 6 2 rfl rfl rfl (by simp [encN])) (by kernel_rfl) ?_
  rcases List.eq_nil_or_concat out with hO | ⟨out0, z0, hO⟩
  ·subst hO
   have C0 := clone_0
   have A0 := all_0
   have e0 : encN [] = [] := rfl
   simp only [e0, List.length_nil]
   repeat (first | (with_reducible first | refine Stp.up ?_ | refine fun (K : AK) hK => ?_ | (refine hK _ ?_; clear hK K)) | simp only [go_sem] | with_reducible refine wA ?_ | clear hK K)
   refine ACallV.one C0 ?_
   repeat (first | (with_reducible first | refine Stp.up ?_ | refine fun (K : AK) hK => ?_ | (refine hK _ ?_; clear hK K)) | simp only [go_sem] | with_reducible refine wA ?_ | clear hK K)
   refine ACallV.one A0 ?_
   repeat (first | (with_reducible first | refine Stp.up ?_ | refine fun (K : AK) hK => ?_ | (refine hK _ ?_; clear hK K)) | simp only [go_sem] | with_reducible refine wA ?_ | clear hK K)
   rw [← eO]
   (refine AFz.of 40 rfl ?_; simp only [go_sem])
  ·have hne : out ≠ [] := by rw [hO]; simp
   have CL := clone_e out ho hne
   have AA := all_e out ho
   have eN : (encN (srt out)).length = (srt out).length := by simp [encN]
   have eZ : ∀ f l, renR f (encN l) = encN l := fun f l => renR_wf0 _ _ (wf_encNN _ _)
   repeat (first | (with_reducible first | refine Stp.up ?_ | refine fun (K : AK) hK => ?_ | (refine hK _ ?_; clear hK K)) | simp only [go_sem] | with_reducible refine wA ?_ | clear hK K)
   refine ACallV.fr [] CL (by simp) ?_ ?_ ?_ ?_ ?_
   ·rfl
   ·exact (renL_wf0 _ _ (by simp only [go_sem])).symm
   ·simp only [List.length_nil, go_sem]
   ·intro k ob hk; simp at hk
   repeat (first | (with_reducible first | refine Stp.up ?_ | refine fun (K : AK) hK => ?_ | (refine hK _ ?_; clear hK K)) | simp only [go_sem] | with_reducible refine wA ?_ | clear hK K)
   refine ACallV.fr [3] AA (by simp) ?_ ?_ ?_ ?_ ?_
   ·simp only [List.map_cons, List.map_nil, List.getElem?_cons_zero, List.getElem?_cons_succ, Option.map_some, AObj.ren, eZ]
   ·rfl
   ·rfl
   ·intro j ob hj
    match j, hj with
    | 0, hj => cases hj; exact wf_encNN _ _
    | j + 1, hj => simp at hj
   repeat (first | (with_reducible first | refine Stp.up ?_ | refine fun (K : AK) hK => ?_ | (refine hK _ ?_; clear hK K)) | simp only [go_sem] | with_reducible refine wA ?_ | clear hK K)
   rw [← eO]
   (try simp only [eZ])
   (refine AFz.of 40 rfl ?_; simp only [go_sem])
   exact eN
set_option maxRecDepth 100000 in
set_option maxHeartbeats 8000000 in
theorem behind_opt (w : List ByteArray) (hw : w.length ≤ 100000) (s : ByteArray) (x : Ex) (H : BehC w x) : BehC w (.mk 6 s [x]) := by
 intro fr hr hb
 have hfl : fr.length ≤ w.length + 1 := rise_bound hr (fun j hj => by have := hb j hj; omega)
 have HX := H fr hr hb
 have hbl := bh_len w (Lg x) fr
 have eO := opt_ok w s x fr hb
 have CC := (concat_e fr (bh w (Lg x) fr) (by omega) (by omega)).to1 8 rfl ⟨by simp [encN], by simp [encN], wf_encNN _ _⟩ (by simp only [go_sem, Bool.and_self]) (wf_encNN _ _)
 have ho : (fr ++ bh w (Lg x) fr).length ≤ 1000000 := by simp; omega
 generalize fr ++ bh w (Lg x) fr = out at eO CC ho
 obtain ⟨k', s', l'⟩ := x
 simp only [encE_eq, Ex.kind, Ex.label, Ex.kids, strsA, List.map_cons, List.map_nil, List.length_cons, List.length_nil] at HX ⊢
 (refine Call1.enter Tryz.func52 rfl (by kernel_rfl) (by kernel_rfl) rfl (by first | rfl | (simp only [go_sem, Bool.and_self, Bool.and_true, Bool.true_and])) (by first | rfl | (simp only [go_sem, Bool.and_self, Bool.and_true, Bool.true_and])) ?_; simp only [Tryz.ntmps52, Tryz.results52, List.length_cons, List.length_nil, Nat.reduceAdd, Nat.reduceSub, List.replicate_succ, List.replicate_zero, List.cons_append, List.nil_append])
 repeat (first | (with_reducible first | refine Stp.up ?_ | refine fun (K : AK) hK => ?_ | refine wD ?_ | (refine hK _ ?_; clear hK K)) | simp only [go_sem] | with_reducible refine wA ?_ | clear hK K)
 refine ACallS.one HX ?_
 repeat (first | (with_reducible first | refine Stp.up ?_ | refine fun (K : AK) hK => ?_ | refine wD ?_ | (refine hK _ ?_; clear hK K)) | simp only [go_sem] | with_reducible refine wA ?_ | clear hK K)
 refine ACallS.one CC ?_
 repeat ((fail_if_success (with_reducible refine stopR (i := 28) ?_)); first | (with_reducible first | refine Stp.up ?_ | refine fun (K : AK) hK => ?_ | (refine hK _ ?_; clear hK K)) | simp only [go_sem] | with_reducible refine wA ?_ | clear hK K)
 rcases List.eq_nil_or_concat out with hO | ⟨out0, z0, hO⟩
 ·subst hO
  have C0 := clone_0
  have A0 := all_0
  have e0 : encN [] = [] := rfl
  simp only [e0, List.length_nil]
  repeat (first | (with_reducible first | refine Stp.up ?_ | refine fun (K : AK) hK => ?_ | refine wD ?_ | (refine hK _ ?_; clear hK K)) | simp only [go_sem] | with_reducible refine wA ?_ | clear hK K)
  refine ACallV.one C0 ?_
  repeat (first | (with_reducible first | refine Stp.up ?_ | refine fun (K : AK) hK => ?_ | refine wD ?_ | (refine hK _ ?_; clear hK K)) | simp only [go_sem] | with_reducible refine wA ?_ | clear hK K)
  refine ACallV.one A0 ?_
  repeat (first | (with_reducible first | refine Stp.up ?_ | refine fun (K : AK) hK => ?_ | refine wD ?_ | (refine hK _ ?_; clear hK K)) | simp only [go_sem] | with_reducible refine wA ?_ | clear hK K)
  rw [← eO]
  (refine AFz.of 40 rfl ?_; simp only [go_sem])
 ·have hne : out ≠ [] := by rw [hO]; simp
  have CL := clone_e out ho hne
  have AA := all_e out ho
  have eN : (encN (srt out)).length = (srt out).length := by simp [encN]
  have eZ : ∀ f l, renR f (encN l) = encN l := fun f l => renR_wf0 _ _ (wf_encNN _ _)
  repeat (first | (with_reducible first | refine Stp.up ?_ | refine fun (K : AK) hK => ?_ | refine wD ?_ | (refine hK _ ?_; clear hK K)) | simp only [go_sem] | with_reducible refine wA ?_ | clear hK K)
  refine ACallV.fr [] CL (by simp) ?_ ?_ ?_ ?_ ?_
  ·rfl
  ·exact (renL_wf0 _ _ (by simp only [go_sem])).symm
  ·simp only [List.length_nil, go_sem]
  ·intro k ob hk; simp at hk
  repeat (first | (with_reducible first | refine Stp.up ?_ | refine fun (K : AK) hK => ?_ | refine wD ?_ | (refine hK _ ?_; clear hK K)) | simp only [go_sem] | with_reducible refine wA ?_ | clear hK K)
  refine ACallV.fr [2] AA (by simp) ?_ ?_ ?_ ?_ ?_
  ·simp only [List.map_cons, List.map_nil, List.getElem?_cons_zero, List.getElem?_cons_succ, Option.map_some, AObj.ren, eZ]
  ·rfl
  ·rfl
  ·intro j ob hj
   match j, hj with
   | 0, hj => cases hj; exact wf_encNN _ _
   | j + 1, hj => simp at hj
  repeat (first | (with_reducible first | refine Stp.up ?_ | refine fun (K : AK) hK => ?_ | refine wD ?_ | (refine hK _ ?_; clear hK K)) | simp only [go_sem] | with_reducible refine wA ?_ | clear hK K)
  rw [← eO]
  (try simp only [eZ])
  (refine AFz.of 40 rfl ?_; simp only [go_sem])
  exact eN
set_option maxRecDepth 100000 in
set_option maxHeartbeats 8000000 in
theorem behind_plus (w : List ByteArray) (hw : w.length ≤ 100000) (s : ByteArray) (x : Ex) (H : BehC w x) : BehC w (.mk 5 s [x]) := by
 intro fr hr hb
 have hfl : fr.length ≤ w.length + 1 := rise_bound hr (fun j hj => by have := hb j hj; omega)
 have HX := H fr hr hb
 have AG := again_of w hw x H (bh w (Lg x) fr) (bh_rise _ _ _) (fun j hj => bh_le hj)
 have eO : srt (bh w (StarL (Lg x)) (bh w (Lg x) fr)) = bh w (Lg (.mk 5 s [x])) fr := by rw [srt_bh, plus_ok]
 have ho : (bh w (StarL (Lg x)) (bh w (Lg x) fr)).length ≤ 1000000 := by have := bh_len w (StarL (Lg x)) (bh w (Lg x) fr); omega
 generalize bh w (StarL (Lg x)) (bh w (Lg x) fr) = out at eO ho AG
 obtain ⟨k', s', l'⟩ := x
 simp only [encE_eq, Ex.kind, Ex.label, Ex.kids, strsA, List.map_cons, List.map_nil, List.length_cons, List.length_nil] at HX AG ⊢
 (refine Call1.enter Tryz.func52 rfl (by kernel_rfl) (by kernel_rfl) rfl (by first | rfl | (simp only [go_sem, Bool.and_self, Bool.and_true, Bool.true_and])) (by first | rfl | (simp only [go_sem, Bool.and_self, Bool.and_true, Bool.true_and])) ?_; simp only [Tryz.ntmps52, Tryz.results52, List.length_cons, List.length_nil, Nat.reduceAdd, Nat.reduceSub, List.replicate_succ, List.replicate_zero, List.cons_append, List.nil_append])
 repeat (first | (with_reducible first | refine Stp.up ?_ | refine fun (K : AK) hK => ?_ | refine wD ?_ | (refine hK _ ?_; clear hK K)) | simp only [go_sem] | with_reducible refine wA ?_ | clear hK K)
 refine ACallS.one HX ?_
 repeat (first | (with_reducible first | refine Stp.up ?_ | refine fun (K : AK) hK => ?_ | refine wD ?_ | (refine hK _ ?_; clear hK K)) | simp only [go_sem] | with_reducible refine wA ?_ | clear hK K)
 refine ACallS.one AG ?_
 repeat ((fail_if_success (with_reducible refine stopR (i := 28) ?_)); first | (with_reducible first | refine Stp.up ?_ | refine fun (K : AK) hK => ?_ | (refine hK _ ?_; clear hK K)) | simp only [go_sem] | with_reducible refine wA ?_ | clear hK K)
 rcases List.eq_nil_or_concat out with hO | ⟨out0, z0, hO⟩
 ·subst hO
  have C0 := clone_0
  have A0 := all_0
  have e0 : encN [] = [] := rfl
  simp only [e0, List.length_nil]
  repeat (first | (with_reducible first | refine Stp.up ?_ | refine fun (K : AK) hK => ?_ | refine wD ?_ | (refine hK _ ?_; clear hK K)) | simp only [go_sem] | with_reducible refine wA ?_ | clear hK K)
  refine ACallV.one C0 ?_
  repeat (first | (with_reducible first | refine Stp.up ?_ | refine fun (K : AK) hK => ?_ | refine wD ?_ | (refine hK _ ?_; clear hK K)) | simp only [go_sem] | with_reducible refine wA ?_ | clear hK K)
  refine ACallV.one A0 ?_
  repeat (first | (with_reducible first | refine Stp.up ?_ | refine fun (K : AK) hK => ?_ | refine wD ?_ | (refine hK _ ?_; clear hK K)) | simp only [go_sem] | with_reducible refine wA ?_ | clear hK K)
  rw [← eO]
  (refine AFz.of 40 rfl ?_; simp only [go_sem])
 ·have hne : out ≠ [] := by rw [hO]; simp
  have CL := clone_e out ho hne
  have AA := all_e out ho
  have eN : (encN (srt out)).length = (srt out).length := by simp [encN]
  have eZ : ∀ f l, renR f (encN l) = encN l := fun f l => renR_wf0 _ _ (wf_encNN _ _)
  repeat (first | (with_reducible first | refine Stp.up ?_ | refine fun (K : AK) hK => ?_ | refine wD ?_ | (refine hK _ ?_; clear hK K)) | simp only [go_sem] | with_reducible refine wA ?_ | clear hK K)
  refine ACallV.fr [] CL (by simp) ?_ ?_ ?_ ?_ ?_
  ·rfl
  ·exact (renL_wf0 _ _ (by simp only [go_sem])).symm
  ·simp only [List.length_nil, go_sem]
  ·intro k ob hk; simp at hk
  repeat (first | (with_reducible first | refine Stp.up ?_ | refine fun (K : AK) hK => ?_ | refine wD ?_ | (refine hK _ ?_; clear hK K)) | simp only [go_sem] | with_reducible refine wA ?_ | clear hK K)
  refine ACallV.fr [2] AA (by simp) ?_ ?_ ?_ ?_ ?_
  ·simp only [List.map_cons, List.map_nil, List.getElem?_cons_zero, List.getElem?_cons_succ, Option.map_some, AObj.ren, eZ]
  ·rfl
  ·rfl
  ·intro j ob hj
   match j, hj with
   | 0, hj => cases hj; exact wf_encNN _ _
   | j + 1, hj => simp at hj
  repeat (first | (with_reducible first | refine Stp.up ?_ | refine fun (K : AK) hK => ?_ | refine wD ?_ | (refine hK _ ?_; clear hK K)) | simp only [go_sem] | with_reducible refine wA ?_ | clear hK K)
  rw [← eO]
  (try simp only [eZ])
  (refine AFz.of 40 rfl ?_; simp only [go_sem])
  exact eN
set_option maxRecDepth 100000 in
set_option maxHeartbeats 8000000 in
theorem behind_star (w : List ByteArray) (hw : w.length ≤ 100000) (s : ByteArray) (x : Ex) (H : BehC w x) : BehC w (.mk 4 s [x]) := by
 intro fr hr hb
 have hfl : fr.length ≤ w.length + 1 := rise_bound hr (fun j hj => by have := hb j hj; omega)
 have AG := again_of w hw x H fr hr hb
 have eO : srt (bh w (StarL (Lg x)) fr) = bh w (Lg (.mk 4 s [x])) fr := by rw [srt_bh, star_ok]
 have ho : (bh w (StarL (Lg x)) fr).length ≤ 1000000 := by have := bh_len w (StarL (Lg x)) fr; omega
 generalize bh w (StarL (Lg x)) fr = out at eO ho AG
 obtain ⟨k', s', l'⟩ := x
 simp only [encE_eq, Ex.kind, Ex.label, Ex.kids, strsA, List.map_cons, List.map_nil, List.length_cons, List.length_nil] at AG ⊢
 (refine Call1.enter Tryz.func52 rfl (by kernel_rfl) (by kernel_rfl) rfl (by first | rfl | (simp only [go_sem, Bool.and_self, Bool.and_true, Bool.true_and])) (by first | rfl | (simp only [go_sem, Bool.and_self, Bool.and_true, Bool.true_and])) ?_; simp only [Tryz.ntmps52, Tryz.results52, List.length_cons, List.length_nil, Nat.reduceAdd, Nat.reduceSub, List.replicate_succ, List.replicate_zero, List.cons_append, List.nil_append])
 repeat (first | (with_reducible first | refine Stp.up ?_ | refine fun (K : AK) hK => ?_ | refine wD ?_ | (refine hK _ ?_; clear hK K)) | simp only [go_sem] | with_reducible refine wA ?_ | clear hK K)
 refine ACallS.one AG ?_
 repeat ((fail_if_success (with_reducible refine stopR (i := 28) ?_)); first | (with_reducible first | refine Stp.up ?_ | refine fun (K : AK) hK => ?_ | (refine hK _ ?_; clear hK K)) | simp only [go_sem] | with_reducible refine wA ?_ | clear hK K)
 rcases List.eq_nil_or_concat out with hO | ⟨out0, z0, hO⟩
 ·subst hO
  have C0 := clone_0
  have A0 := all_0
  have e0 : encN [] = [] := rfl
  simp only [e0, List.length_nil]
  repeat (first | (with_reducible first | refine Stp.up ?_ | refine fun (K : AK) hK => ?_ | refine wD ?_ | (refine hK _ ?_; clear hK K)) | simp only [go_sem] | with_reducible refine wA ?_ | clear hK K)
  refine ACallV.one C0 ?_
  repeat (first | (with_reducible first | refine Stp.up ?_ | refine fun (K : AK) hK => ?_ | refine wD ?_ | (refine hK _ ?_; clear hK K)) | simp only [go_sem] | with_reducible refine wA ?_ | clear hK K)
  refine ACallV.one A0 ?_
  repeat (first | (with_reducible first | refine Stp.up ?_ | refine fun (K : AK) hK => ?_ | refine wD ?_ | (refine hK _ ?_; clear hK K)) | simp only [go_sem] | with_reducible refine wA ?_ | clear hK K)
  rw [← eO]
  (refine AFz.of 40 rfl ?_; simp only [go_sem])
 ·have hne : out ≠ [] := by rw [hO]; simp
  have CL := clone_e out ho hne
  have AA := all_e out ho
  have eN : (encN (srt out)).length = (srt out).length := by simp [encN]
  have eZ : ∀ f l, renR f (encN l) = encN l := fun f l => renR_wf0 _ _ (wf_encNN _ _)
  repeat (first | (with_reducible first | refine Stp.up ?_ | refine fun (K : AK) hK => ?_ | refine wD ?_ | (refine hK _ ?_; clear hK K)) | simp only [go_sem] | with_reducible refine wA ?_ | clear hK K)
  refine ACallV.fr [] CL (by simp) ?_ ?_ ?_ ?_ ?_
  ·rfl
  ·exact (renL_wf0 _ _ (by simp only [go_sem])).symm
  ·simp only [List.length_nil, go_sem]
  ·intro k ob hk; simp at hk
  repeat (first | (with_reducible first | refine Stp.up ?_ | refine fun (K : AK) hK => ?_ | refine wD ?_ | (refine hK _ ?_; clear hK K)) | simp only [go_sem] | with_reducible refine wA ?_ | clear hK K)
  refine ACallV.fr [2] AA (by simp) ?_ ?_ ?_ ?_ ?_
  ·simp only [List.map_cons, List.map_nil, List.getElem?_cons_zero, List.getElem?_cons_succ, Option.map_some, AObj.ren, eZ]
  ·rfl
  ·rfl
  ·intro j ob hj
   match j, hj with
   | 0, hj => cases hj; exact wf_encNN _ _
   | j + 1, hj => simp at hj
  repeat (first | (with_reducible first | refine Stp.up ?_ | refine fun (K : AK) hK => ?_ | refine wD ?_ | (refine hK _ ?_; clear hK K)) | simp only [go_sem] | with_reducible refine wA ?_ | clear hK K)
  rw [← eO]
  (try simp only [eZ])
  (refine AFz.of 40 rfl ?_; simp only [go_sem])
  exact eN
inductive Fit9 : Ex → Prop
 | lab (s : ByteArray) : Fit9 (.mk 1 s [])
 | many (k : Int) (s : ByteArray) (l : List Ex) : (k = 2 ∨ k = 3) → l.length ≤ 900 → (∀ x ∈ l, Fit9 x) → Fit9 (.mk k s l)
 | one (k : Int) (s : ByteArray) (x : Ex) : (k = 4 ∨ k = 5 ∨ k = 6) → Fit9 x → Fit9 (.mk k s [x])
theorem behind_c (w : List ByteArray) (hw : w.length ≤ 1000) {x : Ex} (h : Fit9 x) : BehC w x := by
 induction h with
 | lab s => exact behind_lab w (by omega) s
 | many k s l hk hl _ ih =>
  rcases hk with rfl | rfl
  ·exact behind_seq w (by omega) s l (by omega) ih
  ·exact behind_alt w hw s l hl ih
 | one k s x hk _ ih =>
  rcases hk with rfl | rfl | rfl
  ·exact behind_star w (by omega) s x ih
  ·exact behind_plus w (by omega) s x ih
  ·exact behind_opt w (by omega) s x ih
end Go.Proofs.YtfflpdekojlnmaaGreatDoor
