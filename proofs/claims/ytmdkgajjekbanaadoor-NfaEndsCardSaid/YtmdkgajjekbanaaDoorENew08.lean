/- kinescoperef08.New. -/
import Derived.Test.YtmdkgajjekbanaaDoorEOfK
import Derived.Test.YtmdkgajjekbanaaDoorEFrz2
import Derived.Test.YtmdkgajjekbanaaDoorELate
set_option linter.unusedSimpArgs false
set_option linter.unusedVariables false
namespace Go.Proofs.YtmdkgajjekbanaaDoor
open Go.RowKit

theorem of08_c (x : Ex) (hr : exRight x = true) (hp : (exParts x).length ≤ 1000000) (hz : ∀ z, z ∈ exParts x → z.kids.length ≤ 1000000 ∧ z.label.size ≤ 1000000000000000) : OfC x := by
 induction x using Ex.ind with
 | h k s l ih =>
  have hsub : ∀ x, x ∈ l → ∀ z, z ∈ exParts x → z ∈ exParts (.mk k s l) := fun x hx z hz => by
   rw [exParts, exsParts_eq]; exact List.mem_cons_of_mem _ (List.mem_flatMap.2 ⟨x, hx, hz⟩)
  by_cases h1 : k = 1
  ·subst h1
   have hl : l = [] := by
    have := (right_fit hr).1
    cases this with
    | lab s => rfl
    | many k s l h _ _ => omega
    | one k s x h _ => omega
   subst hl
   exact of_lab s hr hz
  ·refine of_kids k h1 s l hr hp hz fun x hx => ih x hx (right_kids hr x hx) ?_ (fun z hzz => hz z (hsub x hx z hzz))
   have := parts_sub (.mk k s l) x (hsub x hx x (by obtain ⟨k', s', l'⟩ := x; rw [exParts]; exact List.mem_cons_self))
   omega
theorem ren_outRowsP (p k N : Nat) : ∀ m, renR (fun j => p + j) (outRows k N m) = outRows (p + k) N m
 | 0 => rfl
 | m + 1 => by
  rw [outRows_succ, outRows_succ, renR_snoc, ren_outRowsP p k N m]
  simp only [renL, AV.ren, rid]
  rw [show p + (k + 1 + 2 * m) = p + k + 1 + 2 * m by omega]
theorem ren_inObs (g : Nat → Nat) (N : Nat) (f : Nat → Nat → Bool) : ∀ m, (inObs N f m).map (Option.map (AObj.ren g)) = inObs N f m
 | 0 => rfl
 | m + 1 => by
  rw [inObs_succ, List.map_append, ren_inObs g N f m]; simp only [List.map_cons, List.map_nil, rowO, Option.map_some, Option.map_none, AObj.ren, ren_rwB]
theorem ren_nObs (x : Ex) (labs : List ByteArray) (n : Nat) (f : Nat → Nat → Bool) : (nObs 0 x labs n f).map (Option.map (AObj.ren (fun j => 1 + j))) = nObs 1 x labs n f := by
 rw [nObs, nObs, mObs, mObs]
 simp only [List.map_cons, ren_inObs, Option.map_some, AObj.ren, ren_outRowsP, renR_encS, renR, nRow, renL, AV.ren, renR_wf0 _ _ (wf_encE 0 x.kids)]
theorem ACallV.n08P {F : FuncId} {args : List AV} {r0 : AV} {K : AV → List (Option AObj) → Prop} {y : Ex} {labs labs' : List ByteArray} {n : Nat} {f f' : Nat → Nat → Bool} {xb : AObj}
  (h : CallE Tryd.prog F (.ptr 0 0 8 0 0 :: args) (nObs 0 y labs n f) r0 (nObs 0 y labs' n f')) (hwa : ∀ m, wfL m args = true) (hr : ∀ m, r0.wf m = true)
  (k : K r0 (some xb :: nObs 1 y labs' n f')) : ACallV Tryd.prog F (.ptr 1 0 8 0 0 :: args) (some xb :: nObs 1 y labs n f) K := by
 have hf : ∀ k, k < 0 → (fun j => 1 + j) k = k := fun k h => by omega
 have q : ACallV Tryd.prog F (renL (fun j => [some xb].length + j) (.ptr 0 0 8 0 0 :: args)) ([some xb] ++ (nObs 0 y labs n f).map (Option.map (AObj.ren (fun j => [some xb].length + j))) ++ []) K := by
  refine ACallV.subP (o1 := nObs 0 y labs' n f') (pre := [some xb]) (post := []) h (by rw [nObs_len, nObs_len]) ?_ (wf_nObs (by rw [nObs_len]; omega)) (wf_nObs (by rw [nObs_len]; omega)) (hr _) ?_
  ·rw [wfL, hwa, Bool.and_true, AV.wf]; exact decide_eq_true (by rw [nObs_len]; omega)
  ·simp only [List.length_cons, List.length_nil, Nat.zero_add, List.append_nil, ren_nObs, ren_lt hf r0 (hr 0), List.cons_append, List.nil_append]; exact k
 simp only [List.length_cons, List.length_nil, Nat.zero_add, List.append_nil, ren_nObs, renL, renL_lt hf args (hwa 0), AV.ren, List.cons_append, List.nil_append, Nat.add_zero] at q
 exact q
theorem FrzS.slcS {o : List (Option AObj)} {z len : Nat} {rows : List (List AV)} (h : wfR 0 rows = true) : FrzS o (.slc z rows len) (.slc z rows len) := FrzS.of 1 (p := (AV.slc z rows len).wf 0 = true) (by rw [aFrz] <;> simp) (by rw [AV.wf]; exact h)
theorem FrzS.vecP {o : List (Option AObj)} {id len : Nat} {ob : AObj} (ho : o[id]? = some (some ob)) (hv : ob.isV = true) (hl : ob.rows.length = len) (hw : wfR 0 ob.rows = true) : FrzS o (.vec id len) (.slc ob.z ob.rows len) := FrzS.of 1 (p := ob.isV = true ∧ ob.rows.length = len ∧ wfR 0 ob.rows = true) (by rw [aFrz, ho]) ⟨hv, hl, hw⟩
noncomputable def refV (x : Ex) : List AV := [.slc 1 ((labE x).map encS) (labE x).length, .slc 1 (rwB (labE x).length (fstB x 0)) (labE x).length, .slc 1 (rwB (labE x).length (lstB x 0)) (labE x).length, .slc 1 (mxB (labE x).length (folB x 0)) (labE x).length, .v (.bool (emptyB x)), .v (.int .i64 x.kind), .v (.string x.label), .slc 3 (x.kids.map encE) x.kids.length]
theorem wf_refV (n : Nat) (x : Ex) : wfL n (refV x) = true := by
 simp only [refV, wfL, AV.wf, wf_encS, wf_rwB, wf_mxB, wf_encE, Bool.and_self]
set_option maxRecDepth 100000 in
set_option maxHeartbeats 4000000 in
theorem new08_c (x : Ex) (h1 : (exParts x).length ≤ 1000000) (hz : ∀ z, z ∈ exParts x → z.kids.length ≤ 1000000 ∧ z.label.size ≤ 1000000000000000) :
  Call1 Tryd.prog 12 [.agg (encE x)] (if exRight x then .tup [.vp (refV x), .v (.int .i64 0)] else .tup [.v (.pointer none), .v (.int .i64 2)]) := by
 have R := right07_c x h1 hz
 have E := empty07_c x h1 hz
 cases hr : exRight x
 ·rw [hr] at R
  simp only [Bool.false_eq_true, if_false]
  simp only [encE_eq] at *
  (refine Call1.enter Tryd.func12 rfl (by kernel_rfl) (by kernel_rfl) rfl (by first | rfl | (simp only [go_sem, Bool.and_self, Bool.and_true, Bool.true_and])) (by first | rfl | (simp only [go_sem, Bool.and_self, Bool.and_true, Bool.true_and])) ?_; simp only [Tryd.ntmps12, Tryd.results12, List.length_cons, List.length_nil, Nat.reduceAdd, Nat.reduceSub, List.replicate_succ, List.replicate_zero, List.cons_append, List.nil_append])
  repeat (first | (with_reducible first | refine Stp.up ?_ | refine fun (K : AK) hK => ?_ | refine adrawG_k (by decide) ?_ | refine adrawG_e (by decide) ?_ | refine adrawH_k (by decide) ?_ | (refine hK _ ?_; clear hK K)) | simp only [go_sem] | with_reducible refine wA ?_ | (refine adrawH_l rfl rfl ?_) | (refine adrawH_eL rfl ?_) | clear hK K)
  refine ACallV.one R ?_
  repeat (first | (with_reducible first | refine Stp.up ?_ | refine fun (K : AK) hK => ?_ | refine adrawG_k (by decide) ?_ | refine adrawG_e (by decide) ?_ | refine adrawH_k (by decide) ?_ | (refine hK _ ?_; clear hK K)) | simp only [go_sem] | with_reducible refine wA ?_ | (refine adrawH_l rfl rfl ?_) | (refine adrawH_eL rfl ?_) | clear hK K)
  (refine AFz.of 40 rfl ?_; simp only [go_sem])
 ·rw [hr] at R
  simp only [if_true]
  have hnl : (labE x).length ≤ 24 := lab_le hr
  have M := many08_c x hr
  have O := of08_c x hr h1 hz x [] (labE x).length (fun _ _ => false) (by omega) (by simp)
  simp only [List.nil_append, List.length_nil, Bool.false_or] at O
  have hF : (AV.tup [.vp (refV x), .v (.int .i64 0)]).wf 0 = true := by simp only [AV.wf, wfL, wf_refV, Bool.and_self]
  have hA : wfL 0 [AV.agg (encE x)] = true := by simp only [AV.wf, wfL, wf_encE1, Bool.and_self]
  generalize hrv : AV.tup [.vp (refV x), .v (.int .i64 0)] = rv at hF
  simp only [encE_eq] at R E M O hA ⊢
  (refine Call1.enterS Tryd.func12 rfl (by kernel_rfl) (by kernel_rfl) rfl hA hF ?_; simp only [Tryd.ntmps12, Tryd.results12, List.length_cons, List.length_nil, Nat.reduceAdd, Nat.reduceSub, List.replicate_succ, List.replicate_zero, List.cons_append, List.nil_append])
  repeat (first | (with_reducible first | refine Stp.up ?_ | refine fun (K : AK) hK => ?_ | refine adrawG_k (by decide) ?_ | refine adrawG_e (by decide) ?_ | refine adrawH_k (by decide) ?_ | (refine hK _ ?_; clear hK K)) | simp only [go_sem] | with_reducible refine wA ?_ | (refine adrawH_l rfl rfl ?_) | (refine adrawH_eL rfl ?_) | clear hK K)
  refine ACallV.one R ?_
  repeat ((fail_if_success (with_reducible refine stopR (i := 3) ?_)); first | (with_reducible first | refine Stp.up ?_ | refine fun (K : AK) hK => ?_ | refine adrawG_k (by decide) ?_ | refine adrawG_e (by decide) ?_ | refine adrawH_k (by decide) ?_ | (refine hK _ ?_; clear hK K)) | simp only [go_sem] | with_reducible refine wA ?_ | (refine adrawH_l rfl rfl ?_) | (refine adrawH_eL rfl ?_) | clear hK K)
  refine awp_drawG [4] [] (by decide +kernel) (by kernel_rfl) ?_
  repeat (first | (with_reducible first | refine Stp.up ?_ | refine fun (K : AK) hK => ?_ | refine adrawG_k (by decide) ?_ | refine adrawG_e (by decide) ?_ | refine adrawH_k (by decide) ?_ | (refine hK _ ?_; clear hK K)) | simp only [go_sem] | with_reducible refine wA ?_ | (refine adrawH_l rfl rfl ?_) | (refine adrawH_eL rfl ?_) | clear hK K)
  refine ACallS.one E ?_
  repeat ((fail_if_success (with_reducible refine stopR (i := 4) ?_)); first | (with_reducible first | refine Stp.up ?_ | refine fun (K : AK) hK => ?_ | refine adrawG_k (by decide) ?_ | refine adrawG_e (by decide) ?_ | refine adrawH_k (by decide) ?_ | (refine hK _ ?_; clear hK K)) | simp only [go_sem] | with_reducible refine wA ?_ | (refine adrawH_l rfl rfl ?_) | (refine adrawH_eL rfl ?_) | clear hK K)
  refine awp_turn (turn_cell (k := 1) (i := 0) (j := 0) 9 1 (by decide) rfl (show 0 < 8 by decide) rfl rfl) (by kernel_rfl) ?_
  simp only [List.length_cons, List.length_nil, Nat.reduceAdd, List.cons_append, List.nil_append, List.set_cons_zero, List.set_cons_succ]
  refine awp_turn (turn_cell (k := 1) (i := 0) (j := 3) 42 1 (by decide) rfl (show 0 < 8 by decide) rfl rfl) (by kernel_rfl) ?_
  simp only [List.length_cons, List.length_nil, Nat.reduceAdd, List.cons_append, List.nil_append, List.set_cons_zero, List.set_cons_succ]
  repeat (first | (with_reducible first | refine Stp.up ?_ | refine fun (K : AK) hK => ?_ | refine adrawG_k (by decide) ?_ | refine adrawG_e (by decide) ?_ | refine adrawH_k (by decide) ?_ | (refine hK _ ?_; clear hK K)) | simp only [go_sem] | with_reducible refine wA ?_ | (refine adrawH_l rfl rfl ?_) | (refine adrawH_eL rfl ?_) | clear hK K)
  refine ACallV.one M ?_
  repeat (first | (with_reducible first | refine Stp.up ?_ | refine fun (K : AK) hK => ?_ | refine adrawG_k (by decide) ?_ | refine adrawG_e (by decide) ?_ | refine adrawH_k (by decide) ?_ | (refine hK _ ?_; clear hK K)) | simp only [go_sem] | with_reducible refine wA ?_ | (refine adrawH_l rfl rfl ?_) | (refine adrawH_eL rfl ?_) | clear hK K)
  generalize hn : (labE x).length = n at *
  refine awp_loopO (ι := Nat) 7 (fun m => [(5, .v (.int .i64 (n - m : Nat)))]) (fun m => some ⟨25, 3, false, [[.v (.int .i64 x.kind), .v (.string x.label), .slc 3 (x.kids.map encE) x.kids.length]]⟩ :: some ⟨45, 8, false, [[.vec 2 0, .v (.slice none 0 0), .v (.slice none 0 0), .vec 3 m, .v (.bool (emptyB x)), .v (.int .i64 x.kind), .v (.string x.label), .slc 3 (x.kids.map encE) x.kids.length]]⟩ :: some ⟨9, 1, true, []⟩ :: mObs 3 n m (fun _ _ => false)) (fun m => n - m) (fun m => m ≤ n) 0 (by omega) ?_ ?_
  ·have hd : ∀ j, j < 4 → decide (j < (mObs 3 n 0 (fun _ _ => false)).length + 1 + 1 + 1) = true := fun j hj => decide_eq_true (by rw [mObs_len]; omega)
   (refine wk_mk ?_ ?_ ?_ <;> simp only [frm, List.foldl_cons, List.foldl_nil, List.replicate_succ, List.replicate_zero, WkT, WkO, AV.v.injEq, Value.int.injEq, Value.bool.injEq, Value.string.injEq, AV.vec.injEq, AV.ptr.injEq, true_or, or_true, false_or, or_false, AObj.mk.injEq, forall_eq_apply_imp_iff, forall_eq, forall_eq', go_sem])
   ·exact ⟨hd 0 (by omega), hd 1 (by omega)⟩
   ·refine ⟨by rw [hd 2 (by omega), hd 3 (by omega)]; rfl, ?_⟩
    exact wkO_m (by rw [mObs_len]; omega)
  ·intro m hm K hK
   simp only [mObs]
   repeat ((fail_if_success (with_reducible refine stopR (i := 7) ?_)); first | (with_reducible first | refine Stp.up ?_ | refine fun (K : AK) hK => ?_ | refine adrawG_k (by decide) ?_ | refine adrawG_e (by decide) ?_ | refine adrawH_k (by decide) ?_ | (refine hK _ ?_; clear hK K)) | simp only [go_sem] | with_reducible refine wA ?_ | (refine adrawH_l rfl rfl ?_) | (refine adrawH_eL rfl ?_) | clear hK K)
   refine AIf.part (fun h => ?_) (fun h => ?_)
   ·have hlt : m < n := by (try simp only [bne_iff_ne, ne_eq, bne_eq_false_iff_eq, beq_iff_eq, beq_eq_false_iff_ne, decide_eq_true_eq, decide_eq_false_iff_not, Bool.not_eq_eq_eq_not, Int.natCast_inj, Int.ofNat_lt, Int.ofNat_le] at h); omega
    have eW : IntKind.i64.wrap (((n - m : Nat) : Int) - 1) = ((n - (m + 1) : Nat) : Int) := by rw [wrap_id (by omega) (by omega)]; omega
    have eL : List.replicate n [AV.v (.bool false)] = rwB n (fun _ => false) := rwB_false n
    repeat ((fail_if_success (with_reducible refine stopR (i := 7) ?_)); first | (with_reducible first | refine Stp.up ?_ | refine fun (K : AK) hK => ?_ | refine adrawG_k (by decide) ?_ | refine adrawG_e (by decide) ?_ | refine adrawH_k (by decide) ?_ | (refine hK _ ?_; clear hK K)) | simp only [go_sem] | with_reducible refine wA ?_ | (refine adrawH_l rfl rfl ?_) | (refine adrawH_eL rfl ?_) | clear hK K)
    refine awp_drawH [7, 8, 9, 12] [(4, 1009)] (by decide +kernel) (by kernel_rfl) ?_
    have g1 := fun tl j => appG (inObs_len n (fun _ _ => false) m) tl j
    have g0 := fun tl => appG0 (inObs_len n (fun _ _ => false) m) tl
    have s1 := fun tl j x => appS (inObs_len n (fun _ _ => false) m) tl j x
    have s0 := fun tl x => appS0 (inObs_len n (fun _ _ => false) m) tl x
    repeat (first | (with_reducible first | refine Stp.up ?_ | refine fun (K : AK) hK => ?_ | refine adrawG_k (by decide) ?_ | refine adrawG_e (by decide) ?_ | refine adrawH_k (by decide) ?_ | (refine hK _ ?_; clear hK K)) | simp only [go_sem] | with_reducible refine wA ?_ | (refine adrawH_l rfl rfl ?_) | (refine adrawH_eL rfl ?_) | clear hK K)
    refine ACallS.one M ?_
    repeat (first | (with_reducible first | refine Stp.up ?_ | refine fun (K : AK) hK => ?_ | refine adrawG_k (by decide) ?_ | refine adrawG_e (by decide) ?_ | refine adrawH_k (by decide) ?_ | (refine hK _ ?_; clear hK K)) | simp only [go_sem, eL, g1, g0, s1, s0, inObs_len, List.length_append] | with_reducible refine wA ?_ | (refine adrawH_l rfl rfl ?_) | (refine adrawH_eL rfl ?_) | clear hK K)
    repeat (first | (with_reducible first | refine Stp.up ?_ | refine fun (K : AK) hK => ?_ | refine adrawG_k (by decide) ?_ | refine adrawG_e (by decide) ?_ | refine adrawH_k (by decide) ?_ | (refine hK _ ?_; clear hK K)) | simp only [go_sem, eW, eL, g1, g0, s1, s0, inObs_len, List.length_append] | with_reducible refine wA ?_ | (refine adrawH_l rfl rfl ?_) | (refine adrawH_eL rfl ?_) | clear hK K)
    refine LNext.mk (m + 1) (by omega) (by omega) (wk_mk ?_ ?_ ?_)
    ·have hd : ∀ j, j < 4 → decide (j < (mObs 3 n (m + 1) (fun _ _ => false)).length + 1 + 1 + 1) = true := fun j hj => decide_eq_true (by rw [mObs_len]; omega)
     simp only [List.length_cons]
     simp only [go_sem, WkT, true_or, or_true, true_and, and_true]
     exact ⟨.inr (hd 0 (by omega)), .inr (hd 1 (by omega))⟩
    ·have hd : ∀ j, j < 4 → decide (j < (mObs 3 n (m + 1) (fun _ _ => false)).length + 1 + 1 + 1) = true := fun j hj => decide_eq_true (by rw [mObs_len]; omega)
     have hz' : (mObs 3 n (m + 1) (fun _ _ => false)).length + 1 + 1 + 1 = 2 * (m + 1) + 4 := by rw [mObs_len]
     have hwf : wfR (2 * (m + 1) + 4) (outRows 3 n (m + 1)) = true := wf_outRows (by omega)
     have hor : outRows 3 n (m + 1) = outRows 3 n m ++ [[.vec (2 * m + 1 + 1 + 1 + 1) n]] := by rw [outRows_succ, show rid 3 m = 2 * m + 1 + 1 + 1 + 1 by unfold rid; omega]
     simp only [List.length_cons]
     refine ⟨.inr ⟨rfl, fun ob e => by cases e; simp only [wfR, wfL, AV.wf, wf_encE, Bool.and_self]⟩, .inr ⟨rfl, fun ob e => by cases e; simp only [wfR, wfL, AV.wf, wf_encE, Bool.and_self, hd 2 (by omega), hd 3 (by omega)]⟩, .inr ⟨rfl, fun ob e => by cases e; rfl⟩, ?_⟩
     rw [hz']
     simp only [mObs, inObs_succ]
     exact ⟨.inr ⟨by rw [hor], fun ob e => by cases e; exact hwf⟩, wkO_app (fun ob h => wf_inObs _ _ _ _ _ h) ⟨.inr ⟨rfl, fun ob e => by cases e; exact wf_rwB _ _ _⟩, .inl rfl, trivial⟩⟩
    ·exact Nat.zero_le _
   ·have e1 : m = n := by (try simp only [bne_iff_ne, ne_eq, bne_eq_false_iff_eq, beq_iff_eq, beq_eq_false_iff_ne, decide_eq_true_eq, decide_eq_false_iff_not, Bool.not_eq_eq_eq_not, Int.natCast_inj, Int.ofNat_lt, Int.ofNat_le] at h); omega
    simp only [e1]
    repeat ((fail_if_success (with_reducible refine stopR (i := 8) ?_)); first | (with_reducible first | refine Stp.up ?_ | refine fun (K : AK) hK => ?_ | refine adrawG_k (by decide) ?_ | refine adrawG_e (by decide) ?_ | refine adrawH_k (by decide) ?_ | (refine hK _ ?_; clear hK K)) | simp only [go_sem] | with_reducible refine wA ?_ | (refine adrawH_l rfl rfl ?_) | (refine adrawH_eL rfl ?_) | clear hK K)
    repeat (first | (with_reducible first | refine Stp.up ?_ | refine fun (K : AK) hK => ?_ | refine adrawG_k (by decide) ?_ | refine adrawG_e (by decide) ?_ | refine adrawH_k (by decide) ?_ | (refine hK _ ?_; clear hK K)) | simp only [go_sem] | with_reducible refine wA ?_ | (refine adrawH_l rfl rfl ?_) | (refine adrawH_eL rfl ?_) | clear hK K)
    refine ACallV.n08P (y := x) (labs := []) (xb := ⟨25, 3, false, [[.v (.int .i64 x.kind), .v (.string x.label), .slc 3 (x.kids.map encE) x.kids.length]]⟩) O (fun k => by simp only [wfL, AV.wf, wf_encE, Bool.and_self]) (fun k => by simp only [AV.wf, wfL, wf_rwB, Bool.and_self]) ?_
    simp only [nObs, mObs, nRow, List.map_nil, List.length_nil, Nat.reduceAdd]
    have g1 := fun f tl j => nG n f tl j
    have g0 := fun f tl => nG0 n f tl
    have s1 := fun f tl j x => nS n f tl j x
    have s0 := fun f tl x => nS0 n f tl x
    repeat (first | (with_reducible first | refine Stp.up ?_ | refine fun (K : AK) hK => ?_ | refine adrawG_k (by decide) ?_ | refine adrawG_e (by decide) ?_ | refine adrawH_k (by decide) ?_ | (refine hK _ ?_; clear hK K)) | simp only [go_sem, g1, g0, s1, s0, inObs_len, List.length_append] | with_reducible refine wA ?_ | (refine adrawH_l rfl rfl ?_) | (refine adrawH_eL rfl ?_) | clear hK K)
    rw [← hrv]
    simp only [refV, hn]
    refine FrzS.tup ⟨FrzS.ptr (ob := ⟨45, 8, false, [[.vec 2 n, .slc 1 (rwB n (fstB x 0)) n, .slc 1 (rwB n (lstB x 0)) n, .vec 3 n, .v (.bool (emptyB x)), .v (.int .i64 x.kind), .v (.string x.label), .slc 3 (x.kids.map encE) x.kids.length]]⟩) rfl rfl rfl (Nat.succ_ne_zero 7) ?_, FrzS.v _, trivial⟩
    refine ⟨FrzS.vecP (ob := ⟨9, 1, true, (labE x).map encS⟩) rfl rfl (by simp [encS, hn]) (wf_encS 0 _), FrzS.slcS (wf_rwB 0 _ _), FrzS.slcS (wf_rwB 0 _ _), ?_, FrzS.v _, FrzS.v _, FrzS.v _, FrzS.slcS (wf_encE 0 _), trivial⟩
    refine FrzS.vecs (ob := ⟨42, 1, true, outRows 3 n n⟩) rfl rfl (outRows_len _ _ _) (by rw [mxB_len]; exact (outRows_len _ _ _).symm) fun i row row' h1 h2 => ?_
    have hi : i < n := by have := (List.getElem?_eq_some_iff.1 h1).1; rw [outRows_len] at this; exact this
    have e1 : (outRows 3 n n)[i]? = some [.vec (rid 3 i) n] := by rw [outRows, List.getElem?_map, List.getElem?_range hi]; rfl
    have e2 : (mxB n (folB x 0))[i]? = some [.slc 1 (rwB n (folB x 0 i)) n] := by rw [mxB, List.getElem?_map, List.getElem?_range hi]; rfl
    cases (Option.some.inj (e1.symm.trans h1))
    cases (Option.some.inj (e2.symm.trans h2))
    refine ⟨FrzS.vecP (ob := ⟨4, 1, true, rwB n (folB x 0 i)⟩) ?_ rfl (rwB_len _ _) (wf_rwB 0 _ _), trivial⟩
    rw [show rid 3 i = 2 * i + 1 + 1 + 1 + 1 by unfold rid; omega, List.getElem?_cons_succ, List.getElem?_cons_succ, List.getElem?_cons_succ, List.getElem?_cons_succ, List.getElem?_append_left (by rw [inObs_len]; omega)]
    exact inObs_get hi
end Go.Proofs.YtmdkgajjekbanaaDoor
