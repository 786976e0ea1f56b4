/- kinescoperef08: many, either, Set, link. -/
import Derived.Test.YtmdkgajjekbanaaDoorEWays
import Derived.Test.YtmdkgajjekbanaaDoorELaw08
set_option linter.unusedSimpArgs false
set_option linter.unusedVariables false
namespace Go.Proofs.YtmdkgajjekbanaaDoor
open Go.RowKit

set_option maxRecDepth 100000 in
set_option maxHeartbeats 4000000 in
theorem many08_c (x : Ex) (hr : exRight x = true) : Call1 Tryd.prog 46 [.agg (encE x)] (.v (.int .i64 (labE x).length)) := by
 induction x using Ex.ind with
 | h k s l ih =>
  by_cases h1 : k = 1
  ·subst h1
   rw [labE, if_pos rfl]
   simp only [encE_eq, Ex.kind, Ex.label, Ex.kids]
   (refine Call1.enter Tryd.func46 rfl (by kernel_rfl) (by kernel_rfl) rfl (by first | rfl | (simp only [go_sem, Bool.and_self, Bool.and_true, Bool.true_and])) (by first | rfl | (simp only [go_sem, Bool.and_self, Bool.and_true, Bool.true_and])) ?_; simp only [Tryd.ntmps46, Tryd.results46, List.length_cons, List.length_nil, Nat.reduceAdd, Nat.reduceSub, List.replicate_succ, List.replicate_zero, List.cons_append, List.nil_append])
   repeat (first | (with_reducible first | refine Stp.up ?_ | refine fun (K : AK) hK => ?_ | (refine hK _ ?_; clear hK K)) | simp only [go_sem] | with_reducible refine wA ?_ | clear hK K)
   rfl
  ·have f1 : (k == 1) = false := beq_false_of_ne h1
   have hx := lab_le hr
   have hk := right_kids hr
   have hl : l.length ≤ 24 := by
    simp only [exRight, Bool.and_eq_true, decide_eq_true_eq] at hr
    have := kids_le (.mk k s l); simp only [Ex.kids] at this; omega
   rw [labE_of h1] at hx ⊢
   simp only [encE_eq, Ex.kind, Ex.label, Ex.kids]
   (refine Call1.enter Tryd.func46 rfl (by kernel_rfl) (by kernel_rfl) rfl (by first | rfl | (simp only [go_sem, Bool.and_self, Bool.and_true, Bool.true_and])) (by first | rfl | (simp only [go_sem, Bool.and_self, Bool.and_true, Bool.true_and])) ?_; simp only [Tryd.ntmps46, Tryd.results46, List.length_cons, List.length_nil, Nat.reduceAdd, Nat.reduceSub, List.replicate_succ, List.replicate_zero, List.cons_append, List.nil_append])
   repeat (first | (with_reducible first | refine Stp.up ?_ | refine fun (K : AK) hK => ?_ | (refine hK _ ?_; clear hK K)) | simp only [go_sem, f1] | with_reducible refine wA ?_ | clear hK K)
   refine awp_loopF (ι := Nat) (fun i => [(1, .ptr 0 0 3 0 0), (3, .v (.int .i64 (labEs (l.take i)).length)), (4, .v (.int .i64 i))]) (fun i => [some ⟨25, 3, false, [[.v (.int .i64 k), .v (.string s), .slc 3 (l.map encE) l.length]]⟩]) (fun i => l.length - i) (fun i => i ≤ l.length) 0 (by omega) ?_ ?_
   ·(refine wk_mk ?_ ?_ ?_ <;> simp only [frm, List.foldl_cons, List.foldl_nil, List.replicate_succ, List.replicate_zero, WkT, WkO, AV.v.injEq, Value.int.injEq, Value.bool.injEq, Value.string.injEq, AV.vec.injEq, AV.ptr.injEq, true_or, or_true, false_or, or_false, AObj.mk.injEq, forall_eq_apply_imp_iff, forall_eq, forall_eq', go_sem])
    exact ⟨rfl, rfl⟩
   ·intro i hi K hK
    simp only [frm, List.foldl_cons, List.foldl_nil, List.replicate_succ, List.replicate_zero, go_sem]
    repeat (first | (with_reducible first | refine Stp.up ?_ | refine fun (K : AK) hK => ?_ | (refine hK _ ?_; clear hK K)) | simp only [go_sem] | with_reducible refine wA ?_ | clear hK K)
    refine AIf.part (fun h => ?_) (fun h => ?_)
    ·have hlt : i < l.length := by (try simp only [bne_iff_ne, ne_eq, bne_eq_false_iff_eq, beq_iff_eq, beq_eq_false_iff_ne, decide_eq_true_eq, decide_eq_false_iff_not, Bool.not_eq_eq_eq_not, Int.natCast_inj, Int.ofNat_lt, Int.ofNat_le] at h); omega
     have eW := wrap_succ (k := i) (by omega)
     have eG := getD_map encE l i [] hlt
     have HX := ih l[i] (List.getElem_mem hlt) (hk _ (List.getElem_mem hlt))
     have hS : (labEs (l.take (i + 1))).length = (labEs (l.take i)).length + (labE l[i]).length := by
      rw [List.take_succ_eq_append_getElem hlt, labEs_app, List.length_append]; simp [labEs]
     have hB : (labEs l).length = (labEs (l.take (i + 1))).length + (labEs (l.drop (i + 1))).length := by rw [← List.length_append, ← labEs_app, List.take_append_drop]
     have eS : IntKind.i64.wrap (((labEs (l.take i)).length : Int) + ((labE l[i]).length : Int)) = ((labEs (l.take (i + 1))).length : Int) := by rw [wrap_id (by omega) (by omega), hS]; omega
     simp only [encE_eq] at HX eG
     repeat (first | (with_reducible first | refine Stp.up ?_ | refine fun (K : AK) hK => ?_ | (refine hK _ ?_; clear hK K)) | simp only [go_sem, eG] | with_reducible refine wA ?_ | clear hK K)
     refine ACallV.one HX ?_
     repeat (first | (with_reducible first | refine Stp.up ?_ | refine fun (K : AK) hK => ?_ | (refine hK _ ?_; clear hK K)) | simp only [go_sem, eS] | with_reducible refine wA ?_ | clear hK K)
     exact LNext.mk (i + 1) (by omega) (by omega) (by (refine wk_mk ?_ ?_ ?_ <;> simp only [frm, List.foldl_cons, List.foldl_nil, List.replicate_succ, List.replicate_zero, WkT, WkO, AV.v.injEq, Value.int.injEq, Value.bool.injEq, Value.string.injEq, AV.vec.injEq, AV.ptr.injEq, true_or, or_true, false_or, or_false, AObj.mk.injEq, forall_eq_apply_imp_iff, forall_eq, forall_eq', go_sem]); exact eW)
    ·have e1 : l.take i = l := List.take_of_length_le (by (try simp only [bne_iff_ne, ne_eq, bne_eq_false_iff_eq, beq_iff_eq, beq_eq_false_iff_ne, decide_eq_true_eq, decide_eq_false_iff_not, Bool.not_eq_eq_eq_not, Int.natCast_inj, Int.ofNat_lt, Int.ofNat_le] at h); omega)
     simp only [e1]
     repeat (first | (with_reducible first | refine Stp.up ?_ | refine fun (K : AK) hK => ?_ | (refine hK _ ?_; clear hK K)) | simp only [go_sem] | with_reducible refine wA ?_ | clear hK K)
def eiAt (a b : Nat → Bool) (i q : Nat) : Bool := decide (q < i) && (a q || b q)
theorem eiAt_succ (a b : Nat → Bool) (i : Nat) : (fun q => if q = i then (a i || b i) else eiAt a b i q) = eiAt a b (i + 1) := by
 funext q
 rw [eiAt, eiAt]
 split
 ·rename_i h; subst h; simp
 ·rename_i h
  congr 1; rw [decide_eq_decide]; omega
set_option maxRecDepth 100000 in
set_option maxHeartbeats 4000000 in
theorem either08_c (N : Nat) (a b : Nat → Bool) (hn : N ≤ 1000) : Call1 Tryd.prog 55 [.slc 1 (rwB N a) N, .slc 1 (rwB N b) N] (.slc 1 (rwB N (fun q => a q || b q)) N) := by
 (refine Call1.enter Tryd.func55 rfl (by kernel_rfl) (by kernel_rfl) rfl (by first | rfl | (simp only [go_sem, Bool.and_self, Bool.and_true, Bool.true_and])) (by first | rfl | (simp only [go_sem, Bool.and_self, Bool.and_true, Bool.true_and])) ?_; simp only [Tryd.ntmps55, Tryd.results55, List.length_cons, List.length_nil, Nat.reduceAdd, Nat.reduceSub, List.replicate_succ, List.replicate_zero, List.cons_append, List.nil_append])
 have e0 : List.replicate N [AV.v (.bool false)] = rwB N (eiAt a b 0) := by rw [rwB_false]; exact rwB_eq fun q _ => by simp [eiAt]
 repeat (first | (with_reducible first | refine Stp.up ?_ | refine fun (K : AK) hK => ?_ | (refine hK _ ?_; clear hK K)) | simp only [go_sem, e0] | with_reducible refine wA ?_ | clear hK K)
 refine awp_loopO (ι := Nat) 10 (fun i => [(6, .v (.int .i64 i))]) (fun i => [some ⟨4, 1, true, rwB N (eiAt a b i)⟩]) (fun i => N - i) (fun i => i ≤ N) 0 (by omega) ?_ ?_
 ·(refine wk_mk ?_ ?_ ?_ <;> simp only [frm, List.foldl_cons, List.foldl_nil, List.replicate_succ, List.replicate_zero, WkT, WkO, AV.v.injEq, Value.int.injEq, Value.bool.injEq, Value.string.injEq, AV.vec.injEq, AV.ptr.injEq, true_or, or_true, false_or, or_false, AObj.mk.injEq, forall_eq_apply_imp_iff, forall_eq, forall_eq', go_sem])
  rfl
 ·intro i hi K hK
  repeat (first | (with_reducible first | refine Stp.up ?_ | refine fun (K : AK) hK => ?_ | (refine hK _ ?_; clear hK K)) | simp only [go_sem] | with_reducible refine wA ?_ | clear hK K)
  refine AIf.part (fun h => ?_) (fun h => ?_)
  ·have hlt : i < N := by (try simp only [decide_eq_true_eq, decide_eq_false_iff_not, Int.ofNat_lt] at h); omega
   have eW := wrap_succ (k := i) (by omega)
   have eA := rwB_at (g := a) hlt
   have eB := rwB_at (g := b) hlt
   have eR := rwB_at (g := eiAt a b i) hlt
   have eS := fun v => rwB_set (N := N) (j := i) (g := eiAt a b i) (v := v)
   have eU := eiAt_succ a b i
   cases ha : a i
   all_goals
    simp only [ha, Bool.false_or, Bool.true_or] at eU
    repeat (first | (with_reducible first | refine Stp.up ?_ | refine fun (K : AK) hK => ?_ | (refine hK _ ?_; clear hK K)) | simp only [go_sem, eW, eA, eB, ha, eR, eS, eU, Go.undef] | with_reducible refine wA ?_ | clear hK K)
    exact LNext.mk (i + 1) (by omega) (by omega) (by (refine wk_mk ?_ ?_ ?_ <;> simp only [frm, List.foldl_cons, List.foldl_nil, List.replicate_succ, List.replicate_zero, WkT, WkO, AV.v.injEq, Value.int.injEq, Value.bool.injEq, Value.string.injEq, AV.vec.injEq, AV.ptr.injEq, true_or, or_true, false_or, or_false, AObj.mk.injEq, forall_eq_apply_imp_iff, forall_eq, forall_eq', go_sem]))
  ·have e1 : i = N := by (try simp only [decide_eq_true_eq, decide_eq_false_iff_not, Int.ofNat_lt] at h); omega
   have eE : rwB N (eiAt a b N) = rwB N (fun q => a q || b q) := rwB_eq fun q hq => by simp [eiAt, hq]
   simp only [e1]
   repeat (first | (with_reducible first | refine Stp.up ?_ | refine fun (K : AK) hK => ?_ | (refine hK _ ?_; clear hK K)) | simp only [go_sem] | with_reducible refine wA ?_ | clear hK K)
   rw [eE]
   (refine AFz.of 40 rfl ?_; simp only [go_sem])
def setN (N : Nat) (g : Nat → Bool) : List Nat := ((List.range N).filter g).map (· + 1)
theorem setN_succ (N : Nat) (g : Nat → Bool) : setN (N + 1) g = setN N g ++ (if g N then [N + 1] else []) := by
 rw [setN, List.range_succ, List.filter_append, List.map_append, ← setN]
 congr 1
 cases h : g N <;> simp [h]
theorem setN_len (N : Nat) (g : Nat → Bool) : (setN N g).length ≤ N := by
 rw [setN, List.length_map]; exact Nat.le_trans (List.length_filter_le _ _) (by simp)
theorem setN_mem {N : Nat} {g : Nat → Bool} {p : Nat} : p ∈ setN N g ↔ 1 ≤ p ∧ p ≤ N ∧ g (p - 1) = true := by
 rw [setN, List.mem_map]
 constructor
 ·rintro ⟨q, hq, rfl⟩
  rw [List.mem_filter, List.mem_range] at hq
  exact ⟨by omega, by omega, by simpa using hq.2⟩
 ·rintro ⟨h1, h2, h3⟩
  exact ⟨p - 1, List.mem_filter.2 ⟨List.mem_range.2 (by omega), h3⟩, by omega⟩
theorem setN_rise (N : Nat) (g : Nat → Bool) : (setN N g).Pairwise (· < ·) := by
 rw [setN, List.pairwise_map]
 exact (List.pairwise_lt_range.filter _).imp (fun h => by omega)
set_option maxRecDepth 100000 in
set_option maxHeartbeats 4000000 in
theorem set08_c (N : Nat) (g : Nat → Bool) (hn : N ≤ 1000) : Call1 Tryd.prog 23 [.slc 1 (rwB N g) N] (.slc 1 (encN (setN N g)) (setN N g).length) := by
 (refine Call1.enter Tryd.func23 rfl (by kernel_rfl) (by kernel_rfl) rfl (by first | rfl | (simp only [go_sem, Bool.and_self, Bool.and_true, Bool.true_and])) (by first | rfl | (simp only [go_sem, Bool.and_self, Bool.and_true, Bool.true_and])) ?_; simp only [Tryd.ntmps23, Tryd.results23, List.length_cons, List.length_nil, Nat.reduceAdd, Nat.reduceSub, List.replicate_succ, List.replicate_zero, List.cons_append, List.nil_append])
 repeat (first | (with_reducible first | refine Stp.up ?_ | refine fun (K : AK) hK => ?_ | (refine hK _ ?_; clear hK K)) | simp only [go_sem] | with_reducible refine wA ?_ | clear hK K)
 refine awp_loopV (ι := Nat) 3 3 1 rfl (by omega) 5 (fun i => [(3, .vec 0 (setN i g).length), (4, .v (.int .i64 i))]) (fun i => [some ⟨3, 1, true, encN (setN i g)⟩]) (fun i => N - i) (fun i => i ≤ N) 0 (by omega) ?_ ?_
 ·(refine wk_mk ?_ ?_ ?_ <;> simp only [frm, List.foldl_cons, List.foldl_nil, List.replicate_succ, List.replicate_zero, WkT, WkO, AV.v.injEq, Value.int.injEq, Value.bool.injEq, Value.string.injEq, AV.vec.injEq, AV.ptr.injEq, true_or, or_true, false_or, or_false, AObj.mk.injEq, forall_eq_apply_imp_iff, forall_eq, forall_eq', go_sem])
  ·exact ⟨rfl, rfl⟩
  ·rfl
 ·intro i hi K hK
  have eLn : (encN (setN i g)).length = (setN i g).length := by simp [encN]
  have hsl := setN_len i g
  repeat (first | (with_reducible first | refine Stp.up ?_ | refine fun (K : AK) hK => ?_ | (refine hK _ ?_; clear hK K)) | simp only [go_sem] | with_reducible refine wA ?_ | clear hK K)
  refine AIf.part (fun h => ?_) (fun h => ?_)
  ·have hlt : i < N := by (try simp only [decide_eq_true_eq, decide_eq_false_iff_not, Int.ofNat_lt] at h); omega
   have eW := wrap_succ (k := i) (by omega)
   have eA := rwB_at (g := g) hlt
   have eS := setN_succ i g
   cases hg : g i
   ·simp only [hg, Bool.false_eq_true, if_false, List.append_nil] at eS
    repeat (first | (with_reducible first | refine Stp.up ?_ | refine fun (K : AK) hK => ?_ | (refine hK _ ?_; clear hK K)) | simp only [go_sem, eW, eA, hg] | with_reducible refine wA ?_ | clear hK K)
    refine LNext.mk (i + 1) (by omega) (by omega) ?_
    rw [eS]
    (refine wk_mk ?_ ?_ ?_ <;> simp only [frm, List.foldl_cons, List.foldl_nil, List.replicate_succ, List.replicate_zero, WkT, WkO, AV.v.injEq, Value.int.injEq, Value.bool.injEq, Value.string.injEq, AV.vec.injEq, AV.ptr.injEq, true_or, or_true, false_or, or_false, AObj.mk.injEq, forall_eq_apply_imp_iff, forall_eq, forall_eq', go_sem])
   ·simp only [hg, if_true] at eS
    repeat (first | (with_reducible first | refine Stp.up ?_ | refine fun (K : AK) hK => ?_ | (refine hK _ ?_; clear hK K)) | simp only [go_sem, eW, eA, hg, eLn] | with_reducible refine wA ?_ | clear hK K)
    refine LNext.mk (i + 1) (by omega) (by omega) ?_
    rw [eS]
    (refine wk_mk ?_ ?_ ?_ <;> simp only [frm, List.foldl_cons, List.foldl_nil, List.replicate_succ, List.replicate_zero, WkT, WkO, AV.v.injEq, Value.int.injEq, Value.bool.injEq, Value.string.injEq, AV.vec.injEq, AV.ptr.injEq, true_or, or_true, false_or, or_false, AObj.mk.injEq, forall_eq_apply_imp_iff, forall_eq, forall_eq', go_sem])
    simp [encN]
  ·have e1 : i = N := by (try simp only [decide_eq_true_eq, decide_eq_false_iff_not, Int.ofNat_lt] at h); omega
   simp only [e1]
   repeat (first | (with_reducible first | refine Stp.up ?_ | refine fun (K : AK) hK => ?_ | (refine hK _ ?_; clear hK K)) | simp only [go_sem] | with_reducible refine wA ?_ | clear hK K)
   exact AFz.vec (ob := ⟨3, 1, true, encN (setN N g)⟩) rfl rfl (by simp [encN]) (wfR_map _ (fun _ => rfl) _)
/-! ### the automaton that is built -/
def nRow (k : Nat) (x : Ex) (nl n : Nat) : List AV := [.vec (k + 1) nl, .v (.slice none 0 0), .v (.slice none 0 0), .vec (k + 2) n, .v (.bool (emptyB x)), .v (.int .i64 x.kind), .v (.string x.label), .slc 3 (x.kids.map encE) x.kids.length]
def nObs (k : Nat) (x : Ex) (labs : List ByteArray) (n : Nat) (f : Nat → Nat → Bool) : List (Option AObj) :=
 some ⟨45, 8, false, [nRow k x labs.length n]⟩ :: some ⟨9, 1, true, labs.map encS⟩ :: mObs (k + 2) n n f
theorem mObs_get2 {N m i : Nat} {f : Nat → Nat → Bool} {b c x : Option AObj} (h : i < m) : (b :: c :: x :: inObs N f m)[rid 2 i]? = some (rowO N (f i)) := by
 rw [show rid 2 i = rid 0 i + 1 + 1 by unfold rid; omega, List.getElem?_cons_succ, List.getElem?_cons_succ]; exact mObs_get (k := 0) h
theorem mObs_set2 {N m i j : Nat} {f : Nat → Nat → Bool} {v : Bool} {b c x : Option AObj} (h : i < m) : (b :: c :: x :: inObs N f m).set (rid 2 i) (some ⟨4, 1, true, (rwB N (f i)).set j [.v (.bool v)]⟩) = b :: c :: x :: inObs N (upd2 f i j v) m := by
 rw [show rid 2 i = rid 0 i + 1 + 1 by unfold rid; omega, List.set_cons_succ, List.set_cons_succ, mObs_set h]
theorem nObs_len (k : Nat) (x : Ex) (labs : List ByteArray) (n : Nat) (f : Nat → Nat → Bool) : (nObs k x labs n f).length = 2 * n + 3 := by
 rw [nObs, List.length_cons, List.length_cons, mObs_len]
theorem wf_nRow {k n nl m : Nat} {x : Ex} (h : k + 3 ≤ m) : wfL m (nRow k x nl n) = true := by
 have h1 : k + 1 < m := by omega
 have h2 : k + 2 < m := by omega
 simp [nRow, wfL, AV.wf, wf_encE, h1, h2]
theorem wf_nObs {m : Nat} {x : Ex} {labs : List ByteArray} {n : Nat} {f : Nat → Nat → Bool} (h : 2 * n + 3 ≤ m) : ∀ ob, some ob ∈ nObs 0 x labs n f → wfR m ob.rows = true := fun ob hb => by
 rw [nObs, List.mem_cons, List.mem_cons] at hb
 rcases hb with e | e | hb
 ·cases e; simp only [wfR, wf_nRow (show 0 + 3 ≤ m by omega), Bool.and_self]
 ·cases e; exact wf_encS _ _
 ·rw [mObs, List.mem_cons] at hb
  rcases hb with e | hb
  ·cases e; exact wf_outRows (by omega)
  ·exact wf_inObs _ _ _ _ _ hb
theorem wk_n {m : Nat} {x : Ex} {labs : List ByteArray} {n : Nat} {f : Nat → Nat → Bool} (h : 2 * n + 3 ≤ m) : WkO m (nObs 0 x labs n f) (nObs 0 x labs n f) := by
 have := wkO_app (n := m) (a := []) (b := []) (l := nObs 0 x labs n f) (wf_nObs h) trivial
 simpa using this
def lkAt (f : Nat → Nat → Bool) (la fi : Nat → Bool) (i j p q : Nat) : Bool := f p q || (decide (p < i ∨ (p = i ∧ q < j)) && (la p && fi q))
theorem lkAt_0 (f : Nat → Nat → Bool) (la fi : Nat → Bool) : f = lkAt f la fi 0 0 := by funext p q; simp [lkAt]
theorem lkAt_step {f : Nat → Nat → Bool} {la fi : Nat → Bool} {i j : Nat} : (if la i && fi j then upd2 (lkAt f la fi i j) i j true else lkAt f la fi i j) = lkAt f la fi i (j + 1) := by
 funext p q
 split
 ·rename_i h
  rw [upd2]
  split
  ·rename_i e; obtain ⟨rfl, rfl⟩ := e; simp [lkAt, h]
  ·rename_i e
   rw [lkAt, lkAt]; congr 2; rw [decide_eq_decide]; omega
 ·rename_i h
  rw [lkAt, lkAt]
  by_cases e : p = i ∧ q = j
  ·obtain ⟨rfl, rfl⟩ := e
   have h' : (la p && fi q) = false := by simpa using h
   rw [h']; simp
  ·congr 2; rw [decide_eq_decide]; omega
theorem lkAt_next {f : Nat → Nat → Bool} {la fi : Nat → Bool} {N i : Nat} : inObs N (lkAt f la fi i N) N = inObs N (lkAt f la fi (i + 1) 0) N := inObs_eq fun p q hp hq => by
 rw [lkAt, lkAt]; congr 2; rw [decide_eq_decide]; omega
theorem wk_nn {t t' : List AV} {y : YSt} {x : Ex} {labs : List ByteArray} {n : Nat} {f f0 : Nat → Nat → Bool} (h : WkT (2 * n + 3) t t') : Wk (nObs 0 x labs n f0).length ⟨t, nObs 0 x labs n f, y⟩ ⟨t', nObs 0 x labs n f, y⟩ :=
 wk_mk (by rw [nObs_len]; exact h) (by rw [nObs_len]; exact wk_n (Nat.le_refl _)) (by rw [nObs_len, nObs_len]; exact Nat.le_refl _)
set_option maxRecDepth 100000 in
set_option maxHeartbeats 4000000 in
theorem link08_e (x : Ex) (labs : List ByteArray) (n : Nat) (hn : n ≤ 1000) (f : Nat → Nat → Bool) (la fi : Nat → Bool) :
  CallE Tryd.prog 67 [.ptr 0 0 8 0 0, .slc 1 (rwB n la) n, .slc 1 (rwB n fi) n] (nObs 0 x labs n f) (.tup []) (nObs 0 x labs n (fun p q => f p q || (la p && fi q))) := by
 have hd : decide (0 < 2 * n + 3) = true := decide_eq_true (by omega)
 (refine CallE.enter Tryd.func67 rfl (by kernel_rfl) (by kernel_rfl) rfl ?_; simp only [Tryd.ntmps67, Tryd.results67, List.length_cons, List.length_nil, Nat.reduceAdd, Nat.reduceSub, List.replicate_succ, List.replicate_zero, List.cons_append, List.nil_append])
 repeat (first | (with_reducible first | refine Stp.up ?_ | refine fun (K : AK) hK => ?_ | (refine hK _ ?_; clear hK K)) | simp only [go_sem] | with_reducible refine wA ?_ | clear hK K)
 refine awp_loopO (ι := Nat) 8 (fun i => [(6, .v (.int .i64 i)), (7, .undef)]) (fun i => nObs 0 x labs n (lkAt f la fi i 0)) (fun i => n - i) (fun i => i ≤ n) 0 (by omega) ?_ ?_
 ·rw [← lkAt_0]
  refine wk_nn ?_
  simp only [go_sem, WkT, true_or, or_true, true_and, and_true, hd]
  exact .inr rfl
 ·intro i hi K hK
  repeat (first | (with_reducible first | refine Stp.up ?_ | refine fun (K : AK) hK => ?_ | (refine hK _ ?_; clear hK K)) | simp only [go_sem] | with_reducible refine wA ?_ | clear hK K)
  refine AIf.part (fun h => ?_) (fun h => ?_)
  ·have hlt : i < n := by (try simp only [decide_eq_true_eq, decide_eq_false_iff_not, Int.ofNat_lt] at h); omega
   have eW := wrap_succ (k := i) (by omega)
   have eO := outRows_at (k := 2) (N := n) hlt
   have eA := rwB_at (g := la) hlt
   repeat (first | (with_reducible first | refine Stp.up ?_ | refine fun (K : AK) hK => ?_ | (refine hK _ ?_; clear hK K)) | simp only [go_sem] | with_reducible refine wA ?_ | clear hK K)
   refine awp_loopO (ι := Nat) 14 (fun j => [(7, .v (.int .i64 j))]) (fun j => nObs 0 x labs n (lkAt f la fi i j)) (fun j => n - j) (fun j => j ≤ n) 0 (by omega) ?_ ?_
   ·refine wk_nn ?_
    simp only [go_sem, WkT, true_or, or_true, true_and, and_true, hd]
    exact .inr rfl
   ·intro j hj K hK
    repeat (first | (with_reducible first | refine Stp.up ?_ | refine fun (K : AK) hK => ?_ | (refine hK _ ?_; clear hK K)) | simp only [go_sem] | with_reducible refine wA ?_ | clear hK K)
    refine AIf.part (fun h => ?_) (fun h => ?_)
    ·have hjt : j < n := by (try simp only [decide_eq_true_eq, decide_eq_false_iff_not, Int.ofNat_lt] at h); omega
     have eV := wrap_succ (k := j) (by omega)
     have eB := rwB_at (g := fi) hjt
     have eU := lkAt_step (f := f) (la := la) (fi := fi) (i := i) (j := j)
     rcases Bool.eq_false_or_eq_true (la i && fi j) with hq | hq
     ·rw [hq] at eU
      simp only [if_true] at eU
      obtain ⟨h1, h2⟩ := Bool.and_eq_true_iff.1 hq
      have hO : ∀ b c y, (b :: c :: y :: inObs n (lkAt f la fi i j) n)[rid 2 i]? = _ := fun b c y => mObs_get2 (b := b) (c := c) (x := y) hlt
      have eR := rwB_at (g := lkAt f la fi i j i) hjt
      have eS := fun b c y v => mObs_set2 (N := n) (j := j) (f := lkAt f la fi i j) (v := v) (b := b) (c := c) (x := y) hlt
      simp only [nObs, mObs, nRow, Nat.zero_add]
      repeat (first | (with_reducible first | refine Stp.up ?_ | refine fun (K : AK) hK => ?_ | (refine hK _ ?_; clear hK K)) | simp only [go_sem, eV, eA, eB, h1, h2, eO, hO, rowO, eR, eS, eU, Go.undef] | with_reducible refine wA ?_ | clear hK K)
      refine LNext.mk (j + 1) (by omega) (by omega) (wk_nn ?_)
      simp only [go_sem, WkT, true_or, or_true, true_and, and_true, hd, wf_rwB, AV.wf]
     ·rw [hq] at eU
      simp only [Bool.false_eq_true, if_false] at eU
      cases h1 : la i
      ·repeat (first | (with_reducible first | refine Stp.up ?_ | refine fun (K : AK) hK => ?_ | (refine hK _ ?_; clear hK K)) | simp only [go_sem, eV, eA, eB, h1, Go.undef] | with_reducible refine wA ?_ | clear hK K)
       rw [eU]
       refine LNext.mk (j + 1) (by omega) (by omega) (wk_nn ?_)
       simp only [go_sem, WkT, true_or, or_true, true_and, and_true, hd, wf_rwB, AV.wf]
      ·rw [h1, Bool.true_and] at hq
       repeat (first | (with_reducible first | refine Stp.up ?_ | refine fun (K : AK) hK => ?_ | (refine hK _ ?_; clear hK K)) | simp only [go_sem, eV, eA, eB, h1, hq, Go.undef] | with_reducible refine wA ?_ | clear hK K)
       rw [eU]
       refine LNext.mk (j + 1) (by omega) (by omega) (wk_nn ?_)
       simp only [go_sem, WkT, true_or, or_true, true_and, and_true, hd, wf_rwB, AV.wf]
    ·have e1 : j = n := by (try simp only [decide_eq_true_eq, decide_eq_false_iff_not, Int.ofNat_lt] at h); omega
     have eN : nObs 0 x labs n (lkAt f la fi i n) = nObs 0 x labs n (lkAt f la fi (i + 1) 0) := by rw [nObs, nObs, mObs, mObs, lkAt_next]
     simp only [e1]
     rw [eN]
     repeat (first | (with_reducible first | refine Stp.up ?_ | refine fun (K : AK) hK => ?_ | (refine hK _ ?_; clear hK K)) | simp only [go_sem, eW] | with_reducible refine wA ?_ | clear hK K)
     refine LNext.mk (i + 1) (by omega) (by omega) (wk_nn ?_)
     simp only [go_sem, WkT, true_or, or_true, true_and, and_true, hd, wf_rwB, AV.wf]
  ·have e1 : i = n := by (try simp only [decide_eq_true_eq, decide_eq_false_iff_not, Int.ofNat_lt] at h); omega
   have eN : nObs 0 x labs n (lkAt f la fi n 0) = nObs 0 x labs n (fun p q => f p q || (la p && fi q)) := by
    rw [nObs, nObs, mObs, mObs, inObs_eq (g := lkAt f la fi n 0) (h := fun p q => f p q || (la p && fi q)) (fun p q hp _ => by simp [lkAt, hp])]
   simp only [e1]
   rw [eN]
   repeat (first | (with_reducible first | refine Stp.up ?_ | refine fun (K : AK) hK => ?_ | (refine hK _ ?_; clear hK K)) | simp only [go_sem] | with_reducible refine wA ?_ | clear hK K)
   refine ⟨⟨.inr ⟨rfl, rfl⟩, trivial⟩, wk_n (by rw [nObs_len]; exact Nat.le_refl _), by rw [nObs_len, nObs_len]; exact Nat.le_refl _⟩
end Go.Proofs.YtmdkgajjekbanaaDoor
