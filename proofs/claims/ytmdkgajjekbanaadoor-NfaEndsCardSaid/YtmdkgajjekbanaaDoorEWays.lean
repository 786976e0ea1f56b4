/- kinescoperef07: ways, Takes, Empty. -/
import Derived.Test.YtmdkgajjekbanaaDoorEWaysP
import Derived.Test.YtmdkgajjekbanaaDoorELens
import Derived.Test.YtmdkgajjekbanaaDoorERef07b
import Derived.Test.YtmdkgajjekbanaaDoorEExprC
set_option linter.unusedSimpArgs false
set_option linter.unusedVariables false
namespace Go.Proofs.YtmdkgajjekbanaaDoor
open Go.RowKit

theorem CallE.toN {P : Program} {f : FuncId} {args : List AV} {r0 r : AV} {o' : List (Option AObj)} (h : CallE P f args [] r0 o') (ha : wfL 0 args = true) (hr : r.wf 0 = true) (hz : AFzN o' r0 r) : CallN P f args r := by
 obtain ⟨hc, h2⟩ := h
 refine ⟨⟨ha, hr⟩, hc, fun D nu w vargs hro hra => (h2 D nu w vargs hro hra).mono ?_⟩
 rintro e w' ⟨v, nu', o2, r2, rfl, hm, hro', hra', rfl, rfl⟩
 refine ⟨v, rfl, ⟨hm.os, hm.tape, hm.output, hm.size, fun b hb => (hm.keep b hb (owned_nil _ _)).1⟩, (hz _ _ _ _ hro' hra').tr (n := 0) (fun b hf => ⟨hf.1, owned_nil _ _, ?_⟩) (fun id len hlt => by omega) hr⟩
 rcases Nat.lt_or_ge b w.heap.size with q | q
 ·exact absurd hf.2.2 (hm.keep b q (owned_nil _ _)).2
 ·exact q
theorem none07_c (n : Nat) (hn : n ≤ 1000) : Call1 Tryd.prog 84 [.v (.int .i64 n)] (.slc 1 (mxB (n + 1) (fun _ _ => false)) (n + 1)) :=
 ((none07_e n hn).toN rfl (by simp only [AV.wf, wf_mxB]) (mObs_frz _ _)).to1
/-! the same behind one object -/
theorem mObs_get1 {k N m i : Nat} {f : Nat → Nat → Bool} {b x : Option AObj} (h : i < m) : (b :: x :: inObs N f m)[rid 1 i]? = some (rowO N (f i)) := by
 rw [show rid 1 i = rid 0 i + 1 by unfold rid; omega, List.getElem?_cons_succ]; exact mObs_get (k := k) h
theorem mObs_set1 {N m i j : Nat} {f : Nat → Nat → Bool} {v : Bool} {b x : Option AObj} (h : i < m) : (b :: x :: inObs N f m).set (rid 1 i) (some ⟨4, 1, true, (rwB N (f i)).set j [.v (.bool v)]⟩) = b :: x :: inObs N (upd2 f i j v) m := by
 rw [show rid 1 i = rid 0 i + 1 by unfold rid; omega, List.set_cons_succ, mObs_set h]
theorem wkO_m1 {n k N m : Nat} {f : Nat → Nat → Bool} {b : Option AObj} (hb : ∀ ob, b = some ob → wfR n ob.rows = true) (h : k + 2 * m ≤ n) : WkO n (b :: mObs k N m f) (b :: mObs k N m f) := ⟨.inr ⟨rfl, hb⟩, wkO_m h⟩
theorem wk_m1 {t t' : List AV} {y : YSt} {N m : Nat} {f : Nat → Nat → Bool} {b : Option AObj} (hb : ∀ n ob, b = some ob → wfR n ob.rows = true) (h : WkT (2 * m + 2) t t') : Wk 0 ⟨t, b :: some ⟨42, 1, true, outRows 1 N m⟩ :: inObs N f m, y⟩ ⟨t', b :: mObs 1 N m f, y⟩ := by
 have e : (b :: mObs 1 N m f).length = 2 * m + 2 := by rw [List.length_cons, mObs_len]
 exact wk_mk (by rw [e]; exact h) (by rw [e]; exact wkO_m1 (hb _) (by omega)) (Nat.zero_le _)
theorem mObs_frz1 (b : Option AObj) (N : Nat) (f : Nat → Nat → Bool) : AFzN (b :: mObs 1 N N f) (.vec 1 N) (.slc 1 (mxB N f) N) := by
 refine AFzN.vecs (ob := ⟨42, 1, true, outRows 1 N N⟩) rfl rfl (outRows_len _ _ _) (by rw [mxB_len]; exact (outRows_len _ _ _).symm) fun i row row' h1 h2 => ?_
 have hi : i < N := by have := (List.getElem?_eq_some_iff.1 h1).1; rw [outRows_len] at this; exact this
 have e1 : (outRows 1 N N)[i]? = some [.vec (rid 1 i) N] := by rw [outRows, List.getElem?_map, List.getElem?_range hi]; rfl
 have e2 : (mxB N f)[i]? = some [.slc 1 (rwB N (f i)) N] := by rw [mxB, List.getElem?_map, List.getElem?_range hi]; rfl
 cases (Option.some.inj (e1.symm.trans h1))
 cases (Option.some.inj (e2.symm.trans h2))
 refine ⟨rfl, fun j c c' k1 k2 => ?_⟩
 match j, k1, k2 with
 | 0, k1, k2 =>
  cases k1; cases k2
  exact AFzN.vec (ob := ⟨4, 1, true, rwB N (f i)⟩) (mObs_get1 (k := 0) hi) rfl (rwB_len _ _) (plain_map _ (fun s c hc => by rw [List.mem_singleton] at hc; exact ⟨_, hc⟩) _)
 | j + 1, k1, k2 => simp at k1
def WaysC (w : List ByteArray) (x : Ex) : Prop := Call1 Tryd.prog 70 [.agg (encE x), strsA w] (.slc 1 (mxB (w.length + 1) (tkB (Lg x) w)) (w.length + 1))
set_option maxRecDepth 100000 in
set_option maxHeartbeats 4000000 in
theorem ways_lab (w : List ByteArray) (hw : w.length ≤ 1000) (s : ByteArray) : WaysC w (.mk 1 s []) := by
 have hd : decide (1 < 2 * (w.length + 1) + 2) = true := decide_eq_true (by omega)
 have hd0 : decide (0 < 2 * (w.length + 1) + 2) = true := decide_eq_true (by omega)
 have eL : tkB (Lg (.mk 1 s [])) w = tkB (fun u => u = [s]) w := tkB_eq fun u _ => by simp [Lg]
 rw [WaysC, eL, ← mx_lab]
 simp only [encE_eq, strsA, Ex.kind, Ex.label, Ex.kids, List.map_nil, List.length_nil]
 refine CallN.to1 ?_
 (refine CallN.enter Tryd.func70 rfl (by kernel_rfl) (by kernel_rfl) rfl (by simp only [go_sem, wfL, AV.wf, Bool.and_self, Bool.and_true, Bool.true_and, Go.undef]) (by simp only [go_sem, wfL, AV.wf, wf_encS, Bool.and_self, Bool.and_true, Bool.true_and, Go.undef]) ?_; simp only [Tryd.ntmps70, Tryd.results70, List.length_cons, List.length_nil, Nat.reduceAdd, Nat.reduceSub, List.replicate_succ, List.replicate_zero, List.cons_append, List.nil_append])
 repeat (first | (with_reducible first | refine Stp.up ?_ | refine fun (K : AK) hK => ?_ | refine wE ?_ | refine wK ?_ | refine wF ?_ | (refine hK _ ?_; clear hK K)) | simp only [go_sem] | with_reducible refine wA ?_ | clear hK K)
 refine ACallV.none07 hw ?_
 simp only [List.length_cons, List.length_nil, List.cons_append, List.nil_append, Nat.zero_add]
 repeat (first | (with_reducible first | refine Stp.up ?_ | refine fun (K : AK) hK => ?_ | refine wE ?_ | refine wK ?_ | refine wF ?_ | (refine hK _ ?_; clear hK K)) | simp only [go_sem] | with_reducible refine wA ?_ | clear hK K)
 refine awp_loopO (ι := Nat) 20 (fun i => [(7, .v (.int .i64 i))]) (fun i => some ⟨25, 3, false, [[.v (.int .i64 1), .v (.string s), .slc 3 [] 0]]⟩ :: mObs 1 (w.length + 1) (w.length + 1) (labAtB w s i)) (fun i => w.length - i) (fun i => i ≤ w.length) 0 (by omega) ?_ ?_
 ·rw [labAtB_0 w s]
  refine wk_m1 (fun n ob e => by cases e; rfl) ?_
  simp only [go_sem, WkT, true_or, or_true, true_and, and_true, hd, hd0]
  exact .inr rfl
 ·intro i hi K hK
  simp only [mObs]
  repeat (first | (with_reducible first | refine Stp.up ?_ | refine fun (K : AK) hK => ?_ | refine wE ?_ | refine wK ?_ | refine wF ?_ | (refine hK _ ?_; clear hK K)) | simp only [go_sem] | with_reducible refine wA ?_ | clear hK K)
  refine AIf.part (fun h => ?_) (fun h => ?_)
  ·have hlt : i < w.length := by (try simp only [bne_iff_ne, ne_eq, bne_eq_false_iff_eq, beq_iff_eq, beq_eq_false_iff_ne, decide_eq_true_eq, decide_eq_false_iff_not, Bool.not_eq_eq_eq_not, Int.natCast_inj, Int.ofNat_lt, Int.ofNat_le] at h); omega
   have hlt1 : i < w.length + 1 := by omega
   have hlt2 : i + 1 < w.length + 1 := by omega
   have eW := wrap_succ (k := i) (by omega)
   have eO := outRows_at (k := 1) (N := w.length + 1) hlt1
   have hO : ∀ b x, (b :: x :: inObs (w.length + 1) (labAtB w s i) (w.length + 1))[rid 1 i]? = _ := fun b x => mObs_get1 (k := 0) (b := b) (x := x) hlt1
   have eG : (w.map encS).getD i [] = [.v (.string (w.getD i ⟨#[]⟩))] := by
    rw [getD_map encS w i [] hlt, encS, List.getD_eq_getElem?_getD, List.getElem?_eq_getElem hlt]; rfl
   have eR := rwB_at (g := labAtB w s i i) hlt2
   have eS := fun b x v => mObs_set1 (N := w.length + 1) (j := i + 1) (f := labAtB w s i) (v := v) (b := b) (x := x) hlt1
   have eU := labAtB_succ w s i
   repeat (first | (with_reducible first | refine Stp.up ?_ | refine fun (K : AK) hK => ?_ | refine wE ?_ | refine wK ?_ | refine wF ?_ | (refine hK _ ?_; clear hK K)) | simp only [go_sem, eW, eO, hO, eG, rowO, eR, eS, eU] | with_reducible refine wA ?_ | clear hK K)
   refine LNext.mk (i + 1) (by omega) (by omega) (wk_m1 (fun n ob e => by cases e; rfl) ?_)
   simp only [go_sem, WkT, true_or, or_true, true_and, and_true, hd, hd0]
  ·have e1 : i = w.length := by (try simp only [bne_iff_ne, ne_eq, bne_eq_false_iff_eq, beq_iff_eq, beq_eq_false_iff_ne, decide_eq_true_eq, decide_eq_false_iff_not, Bool.not_eq_eq_eq_not, Int.natCast_inj, Int.ofNat_lt, Int.ofNat_le] at h); omega
   simp only [e1]
   repeat (first | (with_reducible first | refine Stp.up ?_ | refine fun (K : AK) hK => ?_ | refine wE ?_ | refine wK ?_ | refine wF ?_ | (refine hK _ ?_; clear hK K)) | simp only [go_sem] | with_reducible refine wA ?_ | clear hK K)
   exact mObs_frz1 _ _ _
set_option maxRecDepth 100000 in
set_option maxHeartbeats 4000000 in
theorem ways_seq (w : List ByteArray) (hw : w.length ≤ 1000) (s : ByteArray) (l : List Ex) (hl : l.length ≤ 1000000) (H : ∀ x, x ∈ l → WaysC w x) : WaysC w (.mk 2 s l) := by
 have N := none07_c w.length hw
 have S := still07_c w.length hw
 have eL : tkB (Lg (.mk 2 s l)) w = tkB (LgSeq l) w := tkB_eq fun u _ => by simp [Lg]
 have e0 : tkB (fun u => u = []) w = tkB (LgSeq (l.take 0)) w := tkB_eq fun u _ => by simp [LgSeq]
 rw [mx_still, e0] at S
 have H2 := fun x hx => H x hx
 simp only [WaysC] at H2 ⊢
 rw [eL]
 simp only [encE_eq, strsA, Ex.kind, Ex.label, Ex.kids] at H2 ⊢
 (refine Call1.enter Tryd.func70 rfl (by kernel_rfl) (by kernel_rfl) rfl (by first | rfl | (simp only [go_sem, Bool.and_self, Bool.and_true, Bool.true_and])) (by first | rfl | (simp only [go_sem, Bool.and_self, Bool.and_true, Bool.true_and])) ?_; simp only [Tryd.ntmps70, Tryd.results70, List.length_cons, List.length_nil, Nat.reduceAdd, Nat.reduceSub, List.replicate_succ, List.replicate_zero, List.cons_append, List.nil_append])
 repeat (first | (with_reducible first | refine Stp.up ?_ | refine fun (K : AK) hK => ?_ | (refine hK _ ?_; clear hK K)) | simp only [go_sem] | with_reducible refine wA ?_ | clear hK K)
 refine ACallV.one N ?_
 repeat (first | (with_reducible first | refine Stp.up ?_ | refine fun (K : AK) hK => ?_ | (refine hK _ ?_; clear hK K)) | simp only [go_sem] | with_reducible refine wA ?_ | clear hK K)
 refine ACallV.one S ?_
 repeat (first | (with_reducible first | refine Stp.up ?_ | refine fun (K : AK) hK => ?_ | (refine hK _ ?_; clear hK K)) | simp only [go_sem] | with_reducible refine wA ?_ | clear hK K)
 refine awp_loopK (ι := Nat) 43 (fun k => [(6, .slc 1 (mxB (w.length + 1) (tkB (LgSeq (l.take k)) w)) (w.length + 1)), (8, .v (.int .i64 k))]) (fun k => l.length - k) (fun k => k ≤ l.length) 0 (by omega) ?_ ?_
 ·(refine wk_mk ?_ ?_ ?_ <;> simp only [frm, List.foldl_cons, List.foldl_nil, List.replicate_succ, List.replicate_zero, WkT, WkO, AV.v.injEq, Value.int.injEq, Value.bool.injEq, Value.string.injEq, AV.vec.injEq, AV.ptr.injEq, true_or, or_true, false_or, or_false, AObj.mk.injEq, forall_eq_apply_imp_iff, forall_eq, forall_eq', go_sem])
  rfl
 ·intro k hk K hK
  repeat (first | (with_reducible first | refine Stp.up ?_ | refine fun (K : AK) hK => ?_ | (refine hK _ ?_; clear hK K)) | simp only [go_sem] | with_reducible refine wA ?_ | clear hK K)
  refine AIf.part (fun h => ?_) (fun h => ?_)
  ·have hlt : k < l.length := by (try simp only [decide_eq_true_eq, decide_eq_false_iff_not, Int.ofNat_lt] at h); omega
   have eW := wrap_succ (k := k) (by omega)
   have eG := getD_map encE l k [] hlt
   have HX := H2 l[k] (List.getElem_mem hlt)
   have J := joined07_c w.length (tkB (LgSeq (l.take k)) w) (tkB (Lg l[k]) w) hw
   have eM : tkB (fun u => ∃ a b, u = a ++ b ∧ LgSeq (l.take k) a ∧ Lg l[k] b) w = tkB (LgSeq (l.take (k + 1))) w := tkB_eq fun u _ => by
    rw [List.take_succ_eq_append_getElem hlt, LgSeq_snoc]
   rw [mx_then, eM] at J
   simp only [encE_eq] at eG
   repeat (first | (with_reducible first | refine Stp.up ?_ | refine fun (K : AK) hK => ?_ | (refine hK _ ?_; clear hK K)) | simp only [go_sem, eG] | with_reducible refine wA ?_ | clear hK K)
   refine ACallV.one HX ?_
   repeat (first | (with_reducible first | refine Stp.up ?_ | refine fun (K : AK) hK => ?_ | (refine hK _ ?_; clear hK K)) | simp only [go_sem] | with_reducible refine wA ?_ | clear hK K)
   refine ACallV.one J ?_
   repeat (first | (with_reducible first | refine Stp.up ?_ | refine fun (K : AK) hK => ?_ | (refine hK _ ?_; clear hK K)) | simp only [go_sem, eW] | with_reducible refine wA ?_ | clear hK K)
   exact LNext.mk (k + 1) (by omega) (by omega) (by (refine wk_mk ?_ ?_ ?_ <;> simp only [frm, List.foldl_cons, List.foldl_nil, List.replicate_succ, List.replicate_zero, WkT, WkO, AV.v.injEq, Value.int.injEq, Value.bool.injEq, Value.string.injEq, AV.vec.injEq, AV.ptr.injEq, true_or, or_true, false_or, or_false, AObj.mk.injEq, forall_eq_apply_imp_iff, forall_eq, forall_eq', go_sem]))
  ·have e1 : l.take k = l := List.take_of_length_le (by (try simp only [decide_eq_true_eq, decide_eq_false_iff_not, Int.ofNat_lt] at h); omega)
   simp only [e1]
   repeat (first | (with_reducible first | refine Stp.up ?_ | refine fun (K : AK) hK => ?_ | (refine hK _ ?_; clear hK K)) | simp only [go_sem] | with_reducible refine wA ?_ | clear hK K)
   exact AFz.slc (wf_mxB _ _ _)
set_option maxRecDepth 100000 in
set_option maxHeartbeats 4000000 in
theorem ways_alt (w : List ByteArray) (hw : w.length ≤ 1000) (s : ByteArray) (l : List Ex) (hl : l.length ≤ 1000000) (H : ∀ x, x ∈ l → WaysC w x) : WaysC w (.mk 3 s l) := by
 have N := none07_c w.length hw
 have eL : tkB (Lg (.mk 3 s l)) w = tkB (LgAlt l) w := tkB_eq fun u _ => by simp [Lg]
 have e0 : tkB (fun _ => False) w = tkB (LgAlt (l.take 0)) w := tkB_eq fun u _ => by simp [LgAlt]
 rw [mx_none, e0] at N
 have H2 := fun x hx => H x hx
 simp only [WaysC] at H2 ⊢
 rw [eL]
 simp only [encE_eq, strsA, Ex.kind, Ex.label, Ex.kids] at H2 ⊢
 (refine Call1.enter Tryd.func70 rfl (by kernel_rfl) (by kernel_rfl) rfl (by first | rfl | (simp only [go_sem, Bool.and_self, Bool.and_true, Bool.true_and])) (by first | rfl | (simp only [go_sem, Bool.and_self, Bool.and_true, Bool.true_and])) ?_; simp only [Tryd.ntmps70, Tryd.results70, List.length_cons, List.length_nil, Nat.reduceAdd, Nat.reduceSub, List.replicate_succ, List.replicate_zero, List.cons_append, List.nil_append])
 repeat (first | (with_reducible first | refine Stp.up ?_ | refine fun (K : AK) hK => ?_ | (refine hK _ ?_; clear hK K)) | simp only [go_sem] | with_reducible refine wA ?_ | clear hK K)
 refine ACallV.one N ?_
 repeat (first | (with_reducible first | refine Stp.up ?_ | refine fun (K : AK) hK => ?_ | (refine hK _ ?_; clear hK K)) | simp only [go_sem] | with_reducible refine wA ?_ | clear hK K)
 refine awp_loopK (ι := Nat) 61 (fun k => [(6, .slc 1 (mxB (w.length + 1) (tkB (LgAlt (l.take k)) w)) (w.length + 1)), (9, .v (.int .i64 k))]) (fun k => l.length - k) (fun k => k ≤ l.length) 0 (by omega) ?_ ?_
 ·(refine wk_mk ?_ ?_ ?_ <;> simp only [frm, List.foldl_cons, List.foldl_nil, List.replicate_succ, List.replicate_zero, WkT, WkO, AV.v.injEq, Value.int.injEq, Value.bool.injEq, Value.string.injEq, AV.vec.injEq, AV.ptr.injEq, true_or, or_true, false_or, or_false, AObj.mk.injEq, forall_eq_apply_imp_iff, forall_eq, forall_eq', go_sem])
  rfl
 ·intro k hk K hK
  repeat (first | (with_reducible first | refine Stp.up ?_ | refine fun (K : AK) hK => ?_ | (refine hK _ ?_; clear hK K)) | simp only [go_sem] | with_reducible refine wA ?_ | clear hK K)
  refine AIf.part (fun h => ?_) (fun h => ?_)
  ·have hlt : k < l.length := by (try simp only [decide_eq_true_eq, decide_eq_false_iff_not, Int.ofNat_lt] at h); omega
   have eW := wrap_succ (k := k) (by omega)
   have eG := getD_map encE l k [] hlt
   have HX := H2 l[k] (List.getElem_mem hlt)
   have J := either07_c w.length (tkB (LgAlt (l.take k)) w) (tkB (Lg l[k]) w) hw
   have eM : tkB (fun u => LgAlt (l.take k) u ∨ Lg l[k] u) w = tkB (LgAlt (l.take (k + 1))) w := tkB_eq fun u _ => by
    rw [List.take_succ_eq_append_getElem hlt, LgAlt_snoc]
   rw [mx_or, eM] at J
   simp only [encE_eq] at eG
   repeat (first | (with_reducible first | refine Stp.up ?_ | refine fun (K : AK) hK => ?_ | (refine hK _ ?_; clear hK K)) | simp only [go_sem, eG] | with_reducible refine wA ?_ | clear hK K)
   refine ACallV.one HX ?_
   repeat (first | (with_reducible first | refine Stp.up ?_ | refine fun (K : AK) hK => ?_ | (refine hK _ ?_; clear hK K)) | simp only [go_sem] | with_reducible refine wA ?_ | clear hK K)
   refine ACallV.one J ?_
   repeat (first | (with_reducible first | refine Stp.up ?_ | refine fun (K : AK) hK => ?_ | (refine hK _ ?_; clear hK K)) | simp only [go_sem, eW] | with_reducible refine wA ?_ | clear hK K)
   exact LNext.mk (k + 1) (by omega) (by omega) (by (refine wk_mk ?_ ?_ ?_ <;> simp only [frm, List.foldl_cons, List.foldl_nil, List.replicate_succ, List.replicate_zero, WkT, WkO, AV.v.injEq, Value.int.injEq, Value.bool.injEq, Value.string.injEq, AV.vec.injEq, AV.ptr.injEq, true_or, or_true, false_or, or_false, AObj.mk.injEq, forall_eq_apply_imp_iff, forall_eq, forall_eq', go_sem]))
  ·have e1 : l.take k = l := List.take_of_length_le (by (try simp only [decide_eq_true_eq, decide_eq_false_iff_not, Int.ofNat_lt] at h); omega)
   simp only [e1]
   repeat (first | (with_reducible first | refine Stp.up ?_ | refine fun (K : AK) hK => ?_ | (refine hK _ ?_; clear hK K)) | simp only [go_sem] | with_reducible refine wA ?_ | clear hK K)
   exact AFz.slc (wf_mxB _ _ _)
set_option maxRecDepth 100000 in
set_option maxHeartbeats 4000000 in
theorem ways_opt (w : List ByteArray) (hw : w.length ≤ 1000) (s : ByteArray) (x : Ex) (H : WaysC w x) : WaysC w (.mk 6 s [x]) := by
 have N := none07_c w.length hw
 have S := still07_c w.length hw
 have O := either07_c w.length (tkB (fun u => u = []) w) (tkB (Lg x) w) hw
 have eL : tkB (fun u => u = [] ∨ Lg x u) w = tkB (Lg (.mk 6 s [x])) w := tkB_eq fun u _ => by simp [Lg, LgHd]
 rw [mx_or, eL] at O
 rw [mx_still] at S
 simp only [WaysC] at H ⊢
 simp only [encE_eq, strsA, Ex.kind, Ex.label, Ex.kids, List.map_cons, List.map_nil, List.length_cons, List.length_nil, Nat.zero_add] at H ⊢
 (refine Call1.enter Tryd.func70 rfl (by kernel_rfl) (by kernel_rfl) rfl (by first | rfl | (simp only [go_sem, Bool.and_self, Bool.and_true, Bool.true_and])) (by first | rfl | (simp only [go_sem, Bool.and_self, Bool.and_true, Bool.true_and])) ?_; simp only [Tryd.ntmps70, Tryd.results70, List.length_cons, List.length_nil, Nat.reduceAdd, Nat.reduceSub, List.replicate_succ, List.replicate_zero, List.cons_append, List.nil_append])
 repeat (first | (with_reducible first | refine Stp.up ?_ | refine fun (K : AK) hK => ?_ | refine wD ?_ | (refine hK _ ?_; clear hK K)) | simp only [go_sem] | with_reducible refine wA ?_ | clear hK K)
 refine ACallV.one N ?_
 repeat (first | (with_reducible first | refine Stp.up ?_ | refine fun (K : AK) hK => ?_ | refine wD ?_ | (refine hK _ ?_; clear hK K)) | simp only [go_sem] | with_reducible refine wA ?_ | clear hK K)
 refine ACallS.one S ?_
 repeat (first | (with_reducible first | refine Stp.up ?_ | refine fun (K : AK) hK => ?_ | refine wD ?_ | (refine hK _ ?_; clear hK K)) | simp only [go_sem] | with_reducible refine wA ?_ | clear hK K)
 refine ACallS.one H ?_
 repeat (first | (with_reducible first | refine Stp.up ?_ | refine fun (K : AK) hK => ?_ | refine wD ?_ | (refine hK _ ?_; clear hK K)) | simp only [go_sem] | with_reducible refine wA ?_ | clear hK K)
 refine ACallS.one O ?_
 repeat (first | (with_reducible first | refine Stp.up ?_ | refine fun (K : AK) hK => ?_ | refine wD ?_ | (refine hK _ ?_; clear hK K)) | simp only [go_sem] | with_reducible refine wA ?_ | clear hK K)
 exact AFz.slc (wf_mxB _ _ _)
set_option maxRecDepth 100000 in
set_option maxHeartbeats 4000000 in
theorem ways_star (w : List ByteArray) (hw : w.length ≤ 1000) (kd : Int) (hk : kd = 4 ∨ kd = 5) (s : ByteArray) (x : Ex) (H : WaysC w x) : WaysC w (.mk kd s [x]) := by
 have N := none07_c w.length hw
 have S := still07_c w.length hw
 have O := either07_c w.length (tkB (fun u => u = []) w) (tkB (Lg x) w) hw
 have e1 : tkB (fun u => u = [] ∨ Lg x u) w = tkB (PowL (Lg x) 1) w := tkB_eq fun u _ => PowL.one.symm
 rw [mx_or, e1] at O
 rw [mx_still] at S
 have J := fun k => joined07_c w.length (tkB (PowL (Lg x) k) w) (tkB (PowL (Lg x) k) w) hw
 have e2 : ∀ k, tkB (fun u => ∃ a b, u = a ++ b ∧ PowL (Lg x) k a ∧ PowL (Lg x) k b) w = tkB (PowL (Lg x) (k + k)) w := fun k => tkB_eq fun u _ => PowL.add.symm
 simp only [mx_then, e2] at J
 have P := joined07_c w.length (tkB (Lg x) w) (tkB (StarL (Lg x)) w) hw
 have e5 : tkB (fun u => ∃ a b, u = a ++ b ∧ Lg x a ∧ StarL (Lg x) b) w = tkB (Lg (.mk 5 s [x])) w := tkB_eq fun u _ => by simp [Lg, LgHd]
 have e4 : tkB (StarL (Lg x)) w = tkB (Lg (.mk 4 s [x])) w := tkB_eq fun u _ => by
  have : LgHd [x] = Lg x := by funext v; rw [LgHd]
  simp [Lg, this]
 have eP : ∀ k, w.length ≤ k → tkB (PowL (Lg x) k) w = tkB (StarL (Lg x)) w := fun k hk => tkB_eq fun u hu => pow_star (by omega)
 rw [mx_then, e5] at P
 simp only [WaysC] at H ⊢
 rcases hk with rfl | rfl
 all_goals
  simp only [encE_eq, strsA, Ex.kind, Ex.label, Ex.kids, List.map_cons, List.map_nil, List.length_cons, List.length_nil, Nat.zero_add] at H ⊢
  (refine Call1.enter Tryd.func70 rfl (by kernel_rfl) (by kernel_rfl) rfl (by first | rfl | (simp only [go_sem, Bool.and_self, Bool.and_true, Bool.true_and])) (by first | rfl | (simp only [go_sem, Bool.and_self, Bool.and_true, Bool.true_and])) ?_; simp only [Tryd.ntmps70, Tryd.results70, List.length_cons, List.length_nil, Nat.reduceAdd, Nat.reduceSub, List.replicate_succ, List.replicate_zero, List.cons_append, List.nil_append])
  repeat (first | (with_reducible first | refine Stp.up ?_ | refine fun (K : AK) hK => ?_ | (refine hK _ ?_; clear hK K)) | simp only [go_sem] | with_reducible refine wA ?_ | clear hK K)
  refine ACallV.one N ?_
  repeat (first | (with_reducible first | refine Stp.up ?_ | refine fun (K : AK) hK => ?_ | (refine hK _ ?_; clear hK K)) | simp only [go_sem] | with_reducible refine wA ?_ | clear hK K)
  refine ACallV.one H ?_
  repeat (first | (with_reducible first | refine Stp.up ?_ | refine fun (K : AK) hK => ?_ | (refine hK _ ?_; clear hK K)) | simp only [go_sem] | with_reducible refine wA ?_ | clear hK K)
  refine ACallV.one S ?_
  repeat (first | (with_reducible first | refine Stp.up ?_ | refine fun (K : AK) hK => ?_ | (refine hK _ ?_; clear hK K)) | simp only [go_sem] | with_reducible refine wA ?_ | clear hK K)
  refine ACallV.one O ?_
  repeat (first | (with_reducible first | refine Stp.up ?_ | refine fun (K : AK) hK => ?_ | (refine hK _ ?_; clear hK K)) | simp only [go_sem] | with_reducible refine wA ?_ | clear hK K)
  refine awp_loopK (ι := Nat) 101 (fun k => [(6, .slc 1 (mxB (w.length + 1) (tkB (PowL (Lg x) k) w)) (w.length + 1)), (11, .v (.int .i64 k))]) (fun k => w.length - k) (fun k => 1 ≤ k ∧ k ≤ 2 * w.length + 1) 1 (by omega) ?_ ?_
  ·(refine wk_mk ?_ ?_ ?_ <;> simp only [frm, List.foldl_cons, List.foldl_nil, List.replicate_succ, List.replicate_zero, WkT, WkO, AV.v.injEq, Value.int.injEq, Value.bool.injEq, Value.string.injEq, AV.vec.injEq, AV.ptr.injEq, true_or, or_true, false_or, or_false, AObj.mk.injEq, forall_eq_apply_imp_iff, forall_eq, forall_eq', go_sem])
   rfl
  ·rintro k ⟨hk1, hk2⟩ K hK
   repeat (first | (with_reducible first | refine Stp.up ?_ | refine fun (K : AK) hK => ?_ | (refine hK _ ?_; clear hK K)) | simp only [go_sem] | with_reducible refine wA ?_ | clear hK K)
   refine AIf.part (fun h => ?_) (fun h => ?_)
   ·have hlt : k < w.length := by (try simp only [decide_eq_true_eq, decide_eq_false_iff_not, Int.ofNat_lt] at h); omega
    have eW : IntKind.i64.wrap (2 * (k : Int)) = ((k + k : Nat) : Int) := by rw [wrap_id (by omega) (by omega)]; omega
    have Jk := J k
    repeat (first | (with_reducible first | refine Stp.up ?_ | refine fun (K : AK) hK => ?_ | (refine hK _ ?_; clear hK K)) | simp only [go_sem] | with_reducible refine wA ?_ | clear hK K)
    refine ACallV.one Jk ?_
    repeat (first | (with_reducible first | refine Stp.up ?_ | refine fun (K : AK) hK => ?_ | (refine hK _ ?_; clear hK K)) | simp only [go_sem, eW] | with_reducible refine wA ?_ | clear hK K)
    exact LNext.mk (k + k) ⟨by omega, by omega⟩ (by omega) (by (refine wk_mk ?_ ?_ ?_ <;> simp only [frm, List.foldl_cons, List.foldl_nil, List.replicate_succ, List.replicate_zero, WkT, WkO, AV.v.injEq, Value.int.injEq, Value.bool.injEq, Value.string.injEq, AV.vec.injEq, AV.ptr.injEq, true_or, or_true, false_or, or_false, AObj.mk.injEq, forall_eq_apply_imp_iff, forall_eq, forall_eq', go_sem]))
   ·rw [eP k (by (try simp only [decide_eq_true_eq, decide_eq_false_iff_not, Int.ofNat_lt] at h); omega)]
    repeat (first | (with_reducible first | refine Stp.up ?_ | refine fun (K : AK) hK => ?_ | (refine hK _ ?_; clear hK K)) | simp only [go_sem] | with_reducible refine wA ?_ | clear hK K)
    first
     | ((refine ACallV.one P ?_); (repeat (first | (with_reducible first | refine Stp.up ?_ | refine fun (K : AK) hK => ?_ | (refine hK _ ?_; clear hK K)) | simp only [go_sem] | with_reducible refine wA ?_ | clear hK K)); (exact AFz.slc (wf_mxB _ _ _)))
     | (rw [e4]; exact AFz.slc (wf_mxB _ _ _))
theorem ways_c (w : List ByteArray) (hw : w.length ≤ 1000) {x : Ex} (h : Fit x) (hx : (exParts x).length ≤ 1000000) : WaysC w x := by
 induction h with
 | lab s => exact ways_lab w hw s
 | many k s l hk hl _ ih =>
  have hl2 := kids_le (.mk k s l)
  simp only [Ex.kids] at hl2
  have sub : ∀ y, y ∈ l → (exParts y).length ≤ 1000000 := fun y hy => by
   have := parts_sub (.mk k s l) y (by rw [exParts, exsParts_eq]; exact List.mem_cons_of_mem _ (List.mem_flatMap.2 ⟨y, hy, by obtain ⟨k', s', l'⟩ := y; rw [exParts]; exact List.mem_cons_self⟩))
   omega
  rcases hk with rfl | rfl
  ·exact ways_seq w hw s l (by omega) (fun y hy => ih y hy (sub y hy))
  ·exact ways_alt w hw s l (by omega) (fun y hy => ih y hy (sub y hy))
 | one k s y hk _ ih =>
  have sub : (exParts y).length ≤ 1000000 := by
   have := parts_sub (.mk k s [y]) y (by rw [exParts, exsParts_eq]; exact List.mem_cons_of_mem _ (List.mem_flatMap.2 ⟨y, by simp, by obtain ⟨k', s', l'⟩ := y; rw [exParts]; exact List.mem_cons_self⟩))
   omega
  rcases hk with rfl | rfl | rfl
  ·exact ways_star w hw 4 (.inl rfl) s y (ih sub)
  ·exact ways_star w hw 5 (.inr rfl) s y (ih sub)
  ·exact ways_opt w hw s y (ih sub)
set_option maxRecDepth 100000 in
set_option maxHeartbeats 4000000 in
theorem takes07_c (x : Ex) (w : List ByteArray) (hw : w.length ≤ 1000) (h1 : (exParts x).length ≤ 1000000) (hz : ∀ z, z ∈ exParts x → z.kids.length ≤ 1000000 ∧ z.label.size ≤ 1000000000000000) : Call1 Tryd.prog 56 [.agg (encE x), strsA w] (.v (.bool (exTakes x w))) := by
 have R := right07_c x h1 hz
 cases hr : exRight x
 ·have e : exTakes x w = false := by rw [← Bool.not_eq_true, exTakes_iff]; simp [hr]
  rw [hr] at R
  rw [e]
  simp only [encE_eq, strsA] at R ⊢
  (refine Call1.enter Tryd.func56 rfl (by kernel_rfl) (by kernel_rfl) rfl (by first | rfl | (simp only [go_sem, Bool.and_self, Bool.and_true, Bool.true_and])) (by first | rfl | (simp only [go_sem, Bool.and_self, Bool.and_true, Bool.true_and])) ?_; simp only [Tryd.ntmps56, Tryd.results56, List.length_cons, List.length_nil, Nat.reduceAdd, Nat.reduceSub, List.replicate_succ, List.replicate_zero, List.cons_append, List.nil_append])
  repeat (first | (with_reducible first | refine Stp.up ?_ | refine fun (K : AK) hK => ?_ | (refine hK _ ?_; clear hK K)) | simp only [go_sem] | with_reducible refine wA ?_ | clear hK K)
  refine ACallV.one R ?_
  repeat (first | (with_reducible first | refine Stp.up ?_ | refine fun (K : AK) hK => ?_ | (refine hK _ ?_; clear hK K)) | simp only [go_sem] | with_reducible refine wA ?_ | clear hK K)
 ·have W := ways_c w hw (right_fit hr).1 h1
  have e : exTakes x w = tkB (Lg x) w 0 w.length := by
   rw [Bool.eq_iff_iff, exTakes_iff, tkB_iff, Tk.word]; simp [hr]
  have eA := mxB_at (N := w.length + 1) (f := tkB (Lg x) w) (i := 0) (by omega)
  have eB := rwB_at (N := w.length + 1) (g := tkB (Lg x) w 0) (j := w.length) (by omega)
  rw [hr] at R
  rw [e]
  simp only [WaysC, encE_eq, strsA] at R W ⊢
  (refine Call1.enter Tryd.func56 rfl (by kernel_rfl) (by kernel_rfl) rfl (by first | rfl | (simp only [go_sem, Bool.and_self, Bool.and_true, Bool.true_and])) (by first | rfl | (simp only [go_sem, Bool.and_self, Bool.and_true, Bool.true_and])) ?_; simp only [Tryd.ntmps56, Tryd.results56, List.length_cons, List.length_nil, Nat.reduceAdd, Nat.reduceSub, List.replicate_succ, List.replicate_zero, List.cons_append, List.nil_append])
  repeat (first | (with_reducible first | refine Stp.up ?_ | refine fun (K : AK) hK => ?_ | (refine hK _ ?_; clear hK K)) | simp only [go_sem] | with_reducible refine wA ?_ | clear hK K)
  refine ACallV.one R ?_
  repeat (first | (with_reducible first | refine Stp.up ?_ | refine fun (K : AK) hK => ?_ | (refine hK _ ?_; clear hK K)) | simp only [go_sem] | with_reducible refine wA ?_ | clear hK K)
  refine ACallV.one W ?_
  repeat (first | (with_reducible first | refine Stp.up ?_ | refine fun (K : AK) hK => ?_ | (refine hK _ ?_; clear hK K)) | simp only [go_sem, eA, eB] | with_reducible refine wA ?_ | clear hK K)
theorem exTakes_nil (x : Ex) : exTakes x [] = emptyB x := by
 rw [Bool.eq_iff_iff, exTakes_iff, emptyB, Bool.and_eq_true]
 constructor
 ·rintro ⟨h, k⟩; exact ⟨h, (exEmpty_iff (right_fit h).1).2 k⟩
 ·rintro ⟨h, k⟩; exact ⟨h, (exEmpty_iff (right_fit h).1).1 k⟩
set_option maxRecDepth 100000 in
theorem empty07_c (x : Ex) (h1 : (exParts x).length ≤ 1000000) (hz : ∀ z, z ∈ exParts x → z.kids.length ≤ 1000000 ∧ z.label.size ≤ 1000000000000000) : Call1 Tryd.prog 45 [.agg (encE x)] (.v (.bool (emptyB x))) := by
 have T := (takes07_c x [] (by simp) h1 hz).le (args' := [.agg (encE x), .v (.slice none 0 0)]) (by simp only [go_sem, wf_encE1, Bool.and_self]) (.cons (.refl _) (.cons (.nil 1) .nil))
 rw [exTakes_nil] at T
 simp only [encE_eq] at T ⊢
 (refine Call1.enter Tryd.func45 rfl (by kernel_rfl) (by kernel_rfl) rfl (by first | rfl | (simp only [go_sem, Bool.and_self, Bool.and_true, Bool.true_and])) (by first | rfl | (simp only [go_sem, Bool.and_self, Bool.and_true, Bool.true_and])) ?_; simp only [Tryd.ntmps45, Tryd.results45, List.length_cons, List.length_nil, Nat.reduceAdd, Nat.reduceSub, List.replicate_succ, List.replicate_zero, List.cons_append, List.nil_append])
 repeat (first | (with_reducible first | refine Stp.up ?_ | refine fun (K : AK) hK => ?_ | (refine hK _ ?_; clear hK K)) | simp only [go_sem] | clear hK K)
 refine ACallV.one T ?_
 repeat (first | (with_reducible first | refine Stp.up ?_ | refine fun (K : AK) hK => ?_ | (refine hK _ ?_; clear hK K)) | simp only [go_sem] | clear hK K)
end Go.Proofs.YtmdkgajjekbanaaDoor
