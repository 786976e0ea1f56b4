/- kinescopelaw08: NfaTells: the walk. -/
import Derived.Test.YtmdkgajjekbanaaDoorEKept
import Derived.Test.YtmdkgajjekbanaaDoorERef02
set_option linter.unusedSimpArgs false
set_option linter.unusedVariables false
namespace Go.Proofs.YtmdkgajjekbanaaDoor
open Go.RowKit

set_option maxRecDepth 100000 in
set_option maxHeartbeats 16000000 in
theorem lawNfaTells_c (x : Ex) (p : Int) (ko : x.ok) : Call1 Tryd.prog 3 [.agg (encE x), .v (.int .i64 p)] (.v (.bool true)) := by
 have W := awake08_c
 have N0 := new_c x ko
 have Z := lsize08_c x 0 (by omega)
 rcases Bool.eq_false_or_eq_true (decide (300 < ((sX x 0 : Nat) : Int))) with hz | hz
 ·simp only [encE_eq] at Z ⊢
  (refine Call1.enter Tryd.func3 rfl (by kernel_rfl) (by kernel_rfl) rfl (by first | rfl | (simp only [go_sem, Bool.and_self, Bool.and_true, Bool.true_and])) (by first | rfl | (simp only [go_sem, Bool.and_self, Bool.and_true, Bool.true_and])) ?_; simp only [Tryd.ntmps3, Tryd.results3, List.length_cons, List.length_nil, Nat.reduceAdd, Nat.reduceSub, List.replicate_succ, List.replicate_zero, List.cons_append, List.nil_append])
  repeat (first | (with_reducible first | refine Stp.up ?_ | refine fun (K : AK) hK => ?_ | refine wD ?_ | (refine hK _ ?_; clear hK K)) | simp only [go_sem] | with_reducible refine wA ?_ | clear hK K)
  refine ACallV.one Z ?_
  repeat (first | (with_reducible first | refine Stp.up ?_ | refine fun (K : AK) hK => ?_ | refine wD ?_ | (refine hK _ ?_; clear hK K)) | simp only [go_sem, hz, Go.undef] | with_reducible refine wA ?_ | clear hK K)
  refine ACallV.one W ?_
  repeat (first | (with_reducible first | refine Stp.up ?_ | refine fun (K : AK) hK => ?_ | refine wD ?_ | (refine hK _ ?_; clear hK K)) | simp only [go_sem] | with_reducible refine wA ?_ | clear hK K)
 obtain ⟨p1, p2⟩ := small_parts ko (by have := of_decide_eq_false hz; omega)
 have M := new08_c x p1 p2
 have hlens := ex_lens (n := 1000000) p1
 have L := lentExpr_c x hlens
 have KE := keptExpr_c x hlens
 have N := N0.le (args' := [.agg (lentE x)]) (by simp only [wfL, AV.wf, wf_lentE1, Bool.and_self]) (.cons (le_lentE x).agg .nil)
 simp only [encE_eq, lentE_eq] at N Z M L KE ⊢
 (refine Call1.enter Tryd.func3 rfl (by kernel_rfl) (by kernel_rfl) rfl (by first | rfl | (simp only [go_sem, Bool.and_self, Bool.and_true, Bool.true_and])) (by first | rfl | (simp only [go_sem, Bool.and_self, Bool.and_true, Bool.true_and])) ?_; simp only [Tryd.ntmps3, Tryd.results3, List.length_cons, List.length_nil, Nat.reduceAdd, Nat.reduceSub, List.replicate_succ, List.replicate_zero, List.cons_append, List.nil_append])
 repeat (first | (with_reducible first | refine Stp.up ?_ | refine fun (K : AK) hK => ?_ | refine wD ?_ | (refine hK _ ?_; clear hK K)) | simp only [go_sem] | with_reducible refine wA ?_ | clear hK K)
 refine ACallV.one Z ?_
 rcases Bool.eq_false_or_eq_true (exRight x) with hr | hr
 rotate_left 1
 ·simp only [hr, Bool.false_eq_true, if_false, if_true] at N M
  repeat (first | (with_reducible first | refine Stp.up ?_ | refine fun (K : AK) hK => ?_ | refine wD ?_ | (refine hK _ ?_; clear hK K)) | simp only [go_sem, hz, Go.undef] | with_reducible refine wA ?_ | clear hK K)
  refine ACallV.one L ?_
  repeat (first | (with_reducible first | refine Stp.up ?_ | refine fun (K : AK) hK => ?_ | refine wD ?_ | (refine hK _ ?_; clear hK K)) | simp only [go_sem, hz, Go.undef] | with_reducible refine wA ?_ | clear hK K)
  refine ACallV.one N ?_
  repeat (first | (with_reducible first | refine Stp.up ?_ | refine fun (K : AK) hK => ?_ | refine wD ?_ | (refine hK _ ?_; clear hK K)) | simp only [go_sem, hz, Go.undef] | with_reducible refine wA ?_ | clear hK K)
  refine ACallV.one M ?_
  repeat (first | (with_reducible first | refine Stp.up ?_ | refine fun (K : AK) hK => ?_ | refine wD ?_ | (refine hK _ ?_; clear hK K)) | simp only [go_sem, hz, Go.undef] | with_reducible refine wA ?_ | clear hK K)
  refine ACallV.one KE ?_
  repeat (first | (with_reducible first | refine Stp.up ?_ | refine fun (K : AK) hK => ?_ | refine wD ?_ | (refine hK _ ?_; clear hK K)) | simp only [go_sem, hz, Go.undef] | with_reducible refine wA ?_ | clear hK K)
  refine ACallV.one W ?_
  repeat (first | (with_reducible first | refine Stp.up ?_ | refine fun (K : AK) hK => ?_ | refine wD ?_ | (refine hK _ ?_; clear hK K)) | simp only [go_sem, hz, Go.undef] | with_reducible refine wA ?_ | clear hK K)
 ·simp only [hr, Bool.false_eq_true, if_false, if_true] at N M
  have LW := newM_law hr
  have hn : (labE x).length ≤ 24 := lab_le hr
  have hf : (newM x).fs.length = 25 := LW.ok.len
  have hnl : (newM x).labs.length ≤ 24 := by rw [LW.labs]; exact hn
  have F1 := nFirst_e (newM x) hf
  have C1 := nLen_c (newM x)
  have C2 := nEmpty_c (newM x) hf
  have C3 := fun q => nLabel_c (newM x) q hnl
  have C4 := fun q => nFollow_c (newM x) q hf hnl
  have C5 := nFirst_c (newM x) hf
  have C6 := nLast_c (newM x) hf
  have R3 := fun q => rLabel_c x q (by omega)
  have R4 := fun q => rFollow_c x q (by omega)
  have R5 := set08_c (labE x).length (fstB x 0) (by omega)
  have R6 := set08_c (labE x).length (lstB x 0) (by omega)
  have SI := fun (l : List Nat) (hl : l.length ≤ 1000000) => sameInts_c (intsN l) (intsN l) (by rw [intsN_len]; exact hl)
  have hS1 := setN_len (labE x).length (fstB x 0)
  have hS2 := setN_len (labE x).length (lstB x 0)
  have hS3 : ∀ q, (rfol x q).length ≤ 24 := fun q => by
   rw [rfol]; split
   ·have := setN_len (labE x).length (folB x 0 (q.toNat - 1)); omega
   ·simp
  simp only [intsA, ← encN_ints, intsN_len, decide_true] at SI
  simp only [tell_fst hr, tell_lst hr, tell_em hr, tell_lab hr, tell_fol hr, LW.labs] at F1 C1 C2 C3 C4 C5 C6
  have S5 := SI _ (Nat.le_trans hS1 (by omega))
  have S6 := SI _ (Nat.le_trans hS2 (by omega))
  have S4 := fun q => SI (rfol x q) (Nat.le_trans (hS3 q) (by omega))
  have OV := overInts_e 3 (encN (setN (labE x).length (fstB x 0))) (n := (setN (labE x).length (fstB x 0)).length) (by omega) (by simp [encN])
  have hR : ∀ f, renR f (encN (setN (labE x).length (fstB x 0))) = encN (setN (labE x).length (fstB x 0)) := fun f => renR_wf0 f _ (wfR_map _ (fun _ => rfl) _)
  have wR : ∀ m, wfR m (encN (setN (labE x).length (fstB x 0))) = true := fun m => wfR_map _ (fun _ => rfl) _
  simp only [refV] at M R3 R4
  have wn : ∀ m, wfL m (nfaV (newM x)) = true := fun m => wf_nfaV m _
  generalize hnv : nfaV (newM x) = nv at *
  have rn : ∀ f, renL f nv = nv := fun f => renL_wf0 f _ (wn 0)
  repeat (first | (with_reducible first | refine Stp.up ?_ | refine fun (K : AK) hK => ?_ | refine wD ?_ | (refine hK _ ?_; clear hK K)) | simp only [go_sem, hz, Go.undef] | with_reducible refine wA ?_ | clear hK K)
  refine ACallV.one L ?_
  repeat (first | (with_reducible first | refine Stp.up ?_ | refine fun (K : AK) hK => ?_ | refine wD ?_ | (refine hK _ ?_; clear hK K)) | simp only [go_sem, hz, Go.undef] | with_reducible refine wA ?_ | clear hK K)
  refine ACallV.one N ?_
  repeat (first | (with_reducible first | refine Stp.up ?_ | refine fun (K : AK) hK => ?_ | refine wD ?_ | (refine hK _ ?_; clear hK K)) | simp only [go_sem, hz, Go.undef] | with_reducible refine wA ?_ | clear hK K)
  refine ACallV.one M ?_
  repeat (first | (with_reducible first | refine Stp.up ?_ | refine fun (K : AK) hK => ?_ | refine wD ?_ | (refine hK _ ?_; clear hK K)) | simp only [go_sem, hz, Go.undef] | with_reducible refine wA ?_ | clear hK K)
  refine ACallV.fr [] F1 (by simp) rfl (by simp only [renL, AV.ren, rn]) (by simp only [wfL, AV.wf, wn, Bool.and_self]) (fun k ob hk => by simp at hk) ?_
  simp only [AV.ren, sig, putO, List.map_cons, List.map_nil, Option.map_none, Option.map_some, AObj.ren, hR, List.length_nil, List.nil_append, Nat.not_lt_zero, if_false, Nat.sub_zero, Nat.zero_add]
  repeat (first | (with_reducible first | refine Stp.up ?_ | refine fun (K : AK) hK => ?_ | refine wD ?_ | (refine hK _ ?_; clear hK K)) | simp only [go_sem, hz, Go.undef] | with_reducible refine wA ?_ | clear hK K)
  refine ACallV.fr [4] OV (by simp) (by simp only [List.map_cons, List.map_nil, AObj.ren, hR, Option.map_some]; rfl) rfl rfl (fun k ob hk => ?_) ?_
  ·cases k with
   | zero => cases hk; exact wR _
   | succ k => simp at hk
  simp only [AV.ren, renL, sig, putO, List.map_cons, List.map_nil, Option.map_none, Option.map_some, List.append_nil, List.length_cons, List.length_nil, List.set_cons_succ, List.set_cons_zero]
  repeat (first | (with_reducible first | refine Stp.up ?_ | refine fun (K : AK) hK => ?_ | refine wD ?_ | (refine hK _ ?_; clear hK K)) | simp only [go_sem, hz, Go.undef, beq_self_eq_true, bne_self_eq_false, Bool.not_true, Bool.not_false] | with_reducible refine wA ?_ | clear hK K)
  refine ACallS.one C1 ?_
  repeat (first | (with_reducible first | refine Stp.up ?_ | refine fun (K : AK) hK => ?_ | refine wD ?_ | (refine hK _ ?_; clear hK K)) | simp only [go_sem, hz, Go.undef, beq_self_eq_true, bne_self_eq_false, Bool.not_true, Bool.not_false] | with_reducible refine wA ?_ | clear hK K)
  refine ACallS.one C2 ?_
  repeat (first | (with_reducible first | refine Stp.up ?_ | refine fun (K : AK) hK => ?_ | refine wD ?_ | (refine hK _ ?_; clear hK K)) | simp only [go_sem, hz, Go.undef, beq_self_eq_true, bne_self_eq_false, Bool.not_true, Bool.not_false] | with_reducible refine wA ?_ | clear hK K)
  refine ACallS.one (C3 p) ?_
  repeat (first | (with_reducible first | refine Stp.up ?_ | refine fun (K : AK) hK => ?_ | refine wD ?_ | (refine hK _ ?_; clear hK K)) | simp only [go_sem, hz, Go.undef, beq_self_eq_true, bne_self_eq_false, Bool.not_true, Bool.not_false] | with_reducible refine wA ?_ | clear hK K)
  refine ACallS.one (R3 p) ?_
  repeat (first | (with_reducible first | refine Stp.up ?_ | refine fun (K : AK) hK => ?_ | refine wD ?_ | (refine hK _ ?_; clear hK K)) | simp only [go_sem, hz, Go.undef, beq_self_eq_true, bne_self_eq_false, Bool.not_true, Bool.not_false] | with_reducible refine wA ?_ | clear hK K)
  refine ACallS.one (C4 p) ?_
  repeat (first | (with_reducible first | refine Stp.up ?_ | refine fun (K : AK) hK => ?_ | refine wD ?_ | (refine hK _ ?_; clear hK K)) | simp only [go_sem, hz, Go.undef, beq_self_eq_true, bne_self_eq_false, Bool.not_true, Bool.not_false] | with_reducible refine wA ?_ | clear hK K)
  refine ACallS.one (R4 p) ?_
  repeat (first | (with_reducible first | refine Stp.up ?_ | refine fun (K : AK) hK => ?_ | refine wD ?_ | (refine hK _ ?_; clear hK K)) | simp only [go_sem, hz, Go.undef, beq_self_eq_true, bne_self_eq_false, Bool.not_true, Bool.not_false] | with_reducible refine wA ?_ | clear hK K)
  refine ACallS.one (S4 p) ?_
  repeat (first | (with_reducible first | refine Stp.up ?_ | refine fun (K : AK) hK => ?_ | refine wD ?_ | (refine hK _ ?_; clear hK K)) | simp only [go_sem, hz, Go.undef, beq_self_eq_true, bne_self_eq_false, Bool.not_true, Bool.not_false] | with_reducible refine wA ?_ | clear hK K)
  refine ACallS.one C5 ?_
  repeat (first | (with_reducible first | refine Stp.up ?_ | refine fun (K : AK) hK => ?_ | refine wD ?_ | (refine hK _ ?_; clear hK K)) | simp only [go_sem, hz, Go.undef, beq_self_eq_true, bne_self_eq_false, Bool.not_true, Bool.not_false] | with_reducible refine wA ?_ | clear hK K)
  refine ACallS.one R5 ?_
  repeat (first | (with_reducible first | refine Stp.up ?_ | refine fun (K : AK) hK => ?_ | refine wD ?_ | (refine hK _ ?_; clear hK K)) | simp only [go_sem, hz, Go.undef, beq_self_eq_true, bne_self_eq_false, Bool.not_true, Bool.not_false] | with_reducible refine wA ?_ | clear hK K)
  refine ACallS.one S5 ?_
  repeat (first | (with_reducible first | refine Stp.up ?_ | refine fun (K : AK) hK => ?_ | refine wD ?_ | (refine hK _ ?_; clear hK K)) | simp only [go_sem, hz, Go.undef, beq_self_eq_true, bne_self_eq_false, Bool.not_true, Bool.not_false] | with_reducible refine wA ?_ | clear hK K)
  refine ACallS.one C6 ?_
  repeat (first | (with_reducible first | refine Stp.up ?_ | refine fun (K : AK) hK => ?_ | refine wD ?_ | (refine hK _ ?_; clear hK K)) | simp only [go_sem, hz, Go.undef, beq_self_eq_true, bne_self_eq_false, Bool.not_true, Bool.not_false] | with_reducible refine wA ?_ | clear hK K)
  refine ACallS.one R6 ?_
  repeat (first | (with_reducible first | refine Stp.up ?_ | refine fun (K : AK) hK => ?_ | refine wD ?_ | (refine hK _ ?_; clear hK K)) | simp only [go_sem, hz, Go.undef, beq_self_eq_true, bne_self_eq_false, Bool.not_true, Bool.not_false] | with_reducible refine wA ?_ | clear hK K)
  refine ACallS.one S6 ?_
  repeat (first | (with_reducible first | refine Stp.up ?_ | refine fun (K : AK) hK => ?_ | refine wD ?_ | (refine hK _ ?_; clear hK K)) | simp only [go_sem, hz, Go.undef, beq_self_eq_true, bne_self_eq_false, Bool.not_true, Bool.not_false] | with_reducible refine wA ?_ | clear hK K)
  have eN1 := wrap_succ (k := (labE x).length) (by omega)
  refine awp_loopK (ι := Nat) 112 (fun k => [(11, .v (.int .i64 k))]) (fun k => (labE x).length + 2 - k) (fun k => k ≤ (labE x).length + 2) 0 (by omega) ?_ ?_
  ·(refine wk_mk ?_ ?_ ?_ <;> simp only [frm, List.foldl_cons, List.foldl_nil, List.replicate_succ, List.replicate_zero, WkT, WkO, AV.v.injEq, Value.int.injEq, Value.bool.injEq, Value.string.injEq, AV.vec.injEq, AV.ptr.injEq, true_or, or_true, false_or, or_false, AObj.mk.injEq, forall_eq_apply_imp_iff, forall_eq, forall_eq', go_sem])
   exact ⟨wn 5, rfl, wn 5⟩
  intro k hk K hK
  repeat (first | (with_reducible first | refine Stp.up ?_ | refine fun (K : AK) hK => ?_ | refine wD ?_ | (refine hK _ ?_; clear hK K)) | simp only [go_sem, eN1] | with_reducible refine wA ?_ | clear hK K)
  refine AIf.part (fun h => ?_) (fun h => ?_)
  ·have hlt : k ≤ (labE x).length + 1 := by (try simp only [bne_iff_ne, ne_eq, bne_eq_false_iff_eq, beq_iff_eq, beq_eq_false_iff_ne, decide_eq_true_eq, decide_eq_false_iff_not, Bool.not_eq_eq_eq_not, Int.natCast_inj, Int.ofNat_lt, Int.ofNat_le] at h); omega
   have eW := wrap_succ (k := k) (by omega)
   repeat (first | (with_reducible first | refine Stp.up ?_ | refine fun (K : AK) hK => ?_ | refine wD ?_ | (refine hK _ ?_; clear hK K)) | simp only [go_sem, hz, Go.undef, beq_self_eq_true, bne_self_eq_false, Bool.not_true, Bool.not_false, eW] | with_reducible refine wA ?_ | clear hK K)
   refine ACallV.one (C3 k) ?_
   repeat (first | (with_reducible first | refine Stp.up ?_ | refine fun (K : AK) hK => ?_ | refine wD ?_ | (refine hK _ ?_; clear hK K)) | simp only [go_sem, hz, Go.undef, beq_self_eq_true, bne_self_eq_false, Bool.not_true, Bool.not_false, eW] | with_reducible refine wA ?_ | clear hK K)
   refine ACallV.one (R3 k) ?_
   repeat (first | (with_reducible first | refine Stp.up ?_ | refine fun (K : AK) hK => ?_ | refine wD ?_ | (refine hK _ ?_; clear hK K)) | simp only [go_sem, hz, Go.undef, beq_self_eq_true, bne_self_eq_false, Bool.not_true, Bool.not_false, eW] | with_reducible refine wA ?_ | clear hK K)
   refine ACallV.one (C4 k) ?_
   repeat (first | (with_reducible first | refine Stp.up ?_ | refine fun (K : AK) hK => ?_ | refine wD ?_ | (refine hK _ ?_; clear hK K)) | simp only [go_sem, hz, Go.undef, beq_self_eq_true, bne_self_eq_false, Bool.not_true, Bool.not_false, eW] | with_reducible refine wA ?_ | clear hK K)
   refine ACallV.one (R4 k) ?_
   repeat (first | (with_reducible first | refine Stp.up ?_ | refine fun (K : AK) hK => ?_ | refine wD ?_ | (refine hK _ ?_; clear hK K)) | simp only [go_sem, hz, Go.undef, beq_self_eq_true, bne_self_eq_false, Bool.not_true, Bool.not_false, eW] | with_reducible refine wA ?_ | clear hK K)
   refine ACallV.one (S4 k) ?_
   repeat (first | (with_reducible first | refine Stp.up ?_ | refine fun (K : AK) hK => ?_ | refine wD ?_ | (refine hK _ ?_; clear hK K)) | simp only [go_sem, hz, Go.undef, beq_self_eq_true, bne_self_eq_false, Bool.not_true, Bool.not_false, eW] | with_reducible refine wA ?_ | clear hK K)
   exact LNext.mk (k + 1) (by omega) (by omega) (by (refine wk_mk ?_ ?_ ?_ <;> simp only [frm, List.foldl_cons, List.foldl_nil, List.replicate_succ, List.replicate_zero, WkT, WkO, AV.v.injEq, Value.int.injEq, Value.bool.injEq, Value.string.injEq, AV.vec.injEq, AV.ptr.injEq, true_or, or_true, false_or, or_false, AObj.mk.injEq, forall_eq_apply_imp_iff, forall_eq, forall_eq', go_sem]); all_goals exact wn 5)
  ·repeat (first | (with_reducible first | refine Stp.up ?_ | refine fun (K : AK) hK => ?_ | refine wD ?_ | (refine hK _ ?_; clear hK K)) | simp only [go_sem, hz, Go.undef, beq_self_eq_true, bne_self_eq_false, Bool.not_true, Bool.not_false] | with_reducible refine wA ?_ | clear hK K)
   refine ACallV.one KE ?_
   repeat (first | (with_reducible first | refine Stp.up ?_ | refine fun (K : AK) hK => ?_ | refine wD ?_ | (refine hK _ ?_; clear hK K)) | simp only [go_sem, hz, Go.undef, beq_self_eq_true, bne_self_eq_false, Bool.not_true, Bool.not_false] | with_reducible refine wA ?_ | clear hK K)
   refine ACallV.one W ?_
   repeat (first | (with_reducible first | refine Stp.up ?_ | refine fun (K : AK) hK => ?_ | refine wD ?_ | (refine hK _ ?_; clear hK K)) | simp only [go_sem, hz, Go.undef, beq_self_eq_true, bne_self_eq_false, Bool.not_true, Bool.not_false] | with_reducible refine wA ?_ | clear hK K)
end Go.Proofs.YtmdkgajjekbanaaDoor

namespace Go.Proofs.YtmdkgajjekbanaaDoor
open Go.RowKit

def AStl (P : Program) (all : List Oper) : List Oper → AS → (AS → Prop) → Prop
 | [], s, Q => Q s
 | oo :: rest, s, Q => AStepS P all oo s (fun s' => AStl P all rest s' Q)
section
variable {P : Program} {D : Nat → Prop} {nu : Nat → Nat → Value} {w : World}
theorem stl_one {f : Fr} (m : WM P) {s : AS} {a : Act} {oo : Oper} {K : AV → Prop} {next : Act → World → Prop} {R : Exit → Act → World → Prop} (hcalm : ∀ c, oo.op ≠ .defer c) (hm : m.M D nu s.o f.Z s.y w) (hs : RS f D nu s a w) (hd : ADoS P oo.op s K)
  (hk : ∀ v w' r, m.M D nu s.o f.Z s.y w' → RS f D nu (s.put oo.dst r s.o) (a.put oo.dst v) w' → K r → next (a.put oo.dst v) w') : oo.wpIn (WF f.r) 9 P a w next R := by
 obtain ⟨r, hK, ho⟩ := adoS_good (P := P) (oo := oo) hs.ro (fun x _ => hs.ev x) hd
 have key : ∀ v w', (RO D nu s.o w' ∧ RA D nu s.o w' r v) → Below w.heap.size w w' → next (a.put oo.dst v) w' := fun v w' h1 h2 =>
  hk v w' r (m.own hm hs.ro (mono_below h2) h1.1) (hs.put (mono_below h2) h1.1 h1.2 oo.dst) hK
 refine ⟨fun f _ => trivial, ?_⟩
 rw [Oper.semAt_eq _ _ oo hcalm]
 generalize (execOp a.eval oo).run P w = res at ho
 unfold OutR at ho
 unfold Oper.uponIn
 split at ho
 ·exact key _ _ ho.1 ho.2
 ·exact key _ _ ho.1 ho.2
 ·refine ⟨fun e => (by cases e), ?_⟩
  refine callsIn_WF (ho.mono fun e w' he => ?_)
  obtain ⟨v, rfl, h1, h2⟩ := he
  exact key _ _ h1 h2
 ·exact ho.elim
theorem astl_good {all : List Oper} {f : Fr} (m : WM P) {Q : AS → Prop} {R : Exit → Act → World → Prop} : ∀ (ops : List Oper) (s : AS) (a : Act) (w : World), (∀ oo, oo ∈ ops → ∀ c, oo.op ≠ .defer c) → m.M D nu s.o f.Z s.y w → RS f D nu s a w → AStl P all ops s Q →
  (∀ s' a' w', m.M D nu s'.o f.Z s'.y w' → RS f D nu s' a' w' → Q s' → R .normal a' w') → wpListIn (WF f.r) 9 P all.toArray R ops a w
 | [], s, a, w, _, hm, hs, hq, hR => hR s a w hm hs hq
 | oo :: rest, s, a, w, hcalm, hm, hs, hq, hR => by
  have hrest : ∀ s' a' w', m.M D nu s'.o f.Z s'.y w' → RS f D nu s' a' w' → AStl P all rest s' Q → wpListIn (WF f.r) 9 P all.toArray R rest a' w' :=
   fun s' a' w' h1 h2 h3 => astl_good m rest s' a' w' (fun o ho => hcalm o (List.mem_cons_of_mem _ ho)) h1 h2 h3 hR
  have hrun : ADoS P oo.op s (fun r => AStl P all rest (s.put oo.dst r s.o) Q) → oo.wpIn (WF f.r) 9 P a w (wpListIn (WF f.r) 9 P all.toArray R rest) R := fun hd =>
   stl_one m (hcalm oo List.mem_cons_self) hm hs hd (fun v w' r h1 h2 h3 => hrest _ _ w' (by simpa only [AS.put] using h1) h2 h3)
  have hskip : AStl P all rest (s.put oo.dst (.v Go.undef) s.o) Q → wpListIn (WF f.r) 9 P all.toArray R rest (a.put oo.dst Go.undef) w := fun hd =>
   hrest _ _ w (by simpa only [AS.put] using hm) (hs.put (.refl nu s.o w) hs.ro (.v _) oo.dst) hd
  simp only [AStl, AStepS] at hq
  simp only [wpListIn]
  split at hq
  ·rename_i hg
   have : Region.wanted oo (yielded all.toArray a.tmps) = true := by simp [Region.wanted, hg]
   rw [if_pos this]
   exact hrun hq
  ·rename_i j want hg
   unfold AGd at hq
   split at hq
   ·rename_i b e
    have hy := gval_good (w := w) (fun d c x _ h1 h2 => hs.tm.at' d c x h1 h2) hs.tm.len e
    have hw : Region.wanted oo (yielded all.toArray a.tmps) = (b == want) := by simp [Region.wanted, hg, hy]
    rw [hw]
    cases hb : b == want
    ·rw [hb] at hq; simp only [Bool.false_eq_true, if_false]; exact ⟨fun f _ => trivial, hskip hq⟩
    ·rw [hb] at hq; simp only [if_true]; exact hrun hq
   ·rename_i e
    have hy := gval_good (w := w) (fun d c x _ h1 h2 => hs.tm.at' d c x h1 h2) hs.tm.len e
    have hw : Region.wanted oo (yielded all.toArray a.tmps) = false := by simp [Region.wanted, hg, hy]
    rw [hw]
    simp only [Bool.false_eq_true, if_false]; exact ⟨fun f _ => trivial, hskip hq⟩
   ·exact hq.elim
end
theorem awp_still {P : Program} {n0 id : Nat} {s : AS} {Q : AExit → AS → Prop} {l : List Oper} (hC : calmB l.toArray = true) (h : AStl P l l s (Q .normal)) : AWp P n0 (.region id l.toArray false) s Q :=
 .inr fun f m D nu a w hZr hn hm hs hmx R hO hR => wpIn_region_list (by
  have := astl_good (f := f) m l s a w (calm_mem hC) hm hs h (fun s' a' w' h1 h2 h3 => hR .normal D f.Z s' a' w' nu h1 (by simpa [Fr.wz] using h2) h3)
  simpa using this)
section
variable {P : Program} {all rest : List Oper} {s : AS} {R : AS → Prop} {oo : Oper}
instance : Stp (AStl P all [] s R) (R s) := ⟨fun h => h⟩
instance : Stp (AStl P all (oo :: rest) s R) (∀ K : AS → Prop, (∀ s', AStl P all rest s' R → K s') → AStepS P all oo s K) := ⟨fun h => h _ (fun _ h => h)⟩
end
end Go.Proofs.YtmdkgajjekbanaaDoor
