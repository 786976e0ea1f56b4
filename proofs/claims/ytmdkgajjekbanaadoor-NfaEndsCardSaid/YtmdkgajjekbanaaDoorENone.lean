/- kinescoperef07: none, still, either, joined. -/
import Derived.Test.YtmdkgajjekbanaaDoorEMat
import Derived.Test.YtmdkgajjekbanaaDoorELent
set_option linter.unusedSimpArgs false
set_option linter.unusedVariables false
namespace Go.Proofs.YtmdkgajjekbanaaDoor
open Go.RowKit

theorem wkO_app {n : Nat} {a b : List (Option AObj)} : ∀ {l : List (Option AObj)}, (∀ ob, some ob ∈ l → wfR n ob.rows = true) → WkO n a b → WkO n (l ++ a) (l ++ b)
 | [], _, h => h
 | x :: l, hl, h => ⟨.inr ⟨rfl, fun ob e => hl ob (by rw [e]; simp)⟩, wkO_app (fun ob hb => hl ob (List.mem_cons_of_mem _ hb)) h⟩
theorem wf_inObs (n N : Nat) (f : Nat → Nat → Bool) : ∀ (m : Nat) ob, some ob ∈ inObs N f m → wfR n ob.rows = true
 | 0, ob, h => by cases h
 | m + 1, ob, h => by
  rw [inObs_succ, List.mem_append] at h
  rcases h with h | h
  ·exact wf_inObs n N f m ob h
  ·simp only [List.mem_cons, List.not_mem_nil, or_false, reduceCtorEq] at h
   rw [rowO] at h
   cases h
   exact wf_rwB _ _ _
theorem wkO_m {n k N m : Nat} {f : Nat → Nat → Bool} (h : k + 2 * m ≤ n) : WkO n (mObs k N m f) (mObs k N m f) := by
 have := wkO_app (n := n) (a := []) (b := []) (l := mObs k N m f) (fun ob hb => by
  rw [mObs, List.mem_cons] at hb
  rcases hb with e | hb
  ·cases e; exact wf_outRows h
  ·exact wf_inObs _ _ _ _ _ hb) trivial
 simpa using this
theorem outRows_succ0 (N m : Nat) : outRows 0 N (m + 1) = outRows 0 N m ++ [[.vec (2 * m + 1) N]] := by
 rw [outRows_succ, show rid 0 m = 2 * m + 1 by unfold rid; omega]
theorem inObs_get1 {N m : Nat} {f : Nat → Nat → Bool} {a b : Option AObj} : (inObs N f m ++ [a, b])[2 * m + 1]? = some b := by
 rw [List.getElem?_append_right (by rw [inObs_len]; omega), inObs_len, show 2 * m + 1 - 2 * m = 1 by omega]; rfl
set_option maxRecDepth 100000 in
set_option maxHeartbeats 4000000 in
theorem none07_e (n : Nat) (hn : n ≤ 1000) : CallE Tryd.prog 84 [.v (.int .i64 n)] [] (.vec 0 (n + 1)) (mObs 0 (n + 1) (n + 1) (fun _ _ => false)) := by
 have eN := wrap_succ (k := n) (by omega)
 (refine CallE.enter Tryd.func84 rfl (by kernel_rfl) (by kernel_rfl) rfl ?_; simp only [Tryd.ntmps84, Tryd.results84, List.length_cons, List.length_nil, Nat.reduceAdd, Nat.reduceSub, List.replicate_succ, List.replicate_zero, List.cons_append, List.nil_append])
 repeat (first | (with_reducible first | refine Stp.up ?_ | refine fun (K : AK) hK => ?_ | (refine hK _ ?_; clear hK K)) | simp only [go_sem] | with_reducible refine wA ?_ | clear hK K)
 refine awp_loopV (ι := Nat) 3 42 1 rfl (by decide) 5 (fun i => [(3, .vec 0 i), (4, .v (.int .i64 i))]) (fun i => mObs 0 (n + 1) i (fun _ _ => false)) (fun i => n + 1 - i) (fun i => i ≤ n + 1) 0 (by omega) ?_ ?_
 ·(refine wk_mk ?_ ?_ ?_ <;> simp only [frm, List.foldl_cons, List.foldl_nil, List.replicate_succ, List.replicate_zero, WkT, WkO, AV.v.injEq, Value.int.injEq, Value.bool.injEq, Value.string.injEq, AV.vec.injEq, AV.ptr.injEq, true_or, or_true, false_or, or_false, AObj.mk.injEq, forall_eq_apply_imp_iff, forall_eq, forall_eq', go_sem])
  ·exact ⟨rfl, rfl⟩
  ·exact wkO_m (by simp [mObs])
  ·exact Nat.zero_le _
 ·intro i hi K hK
  simp only [mObs]
  repeat (first | (with_reducible first | refine Stp.up ?_ | refine fun (K : AK) hK => ?_ | (refine hK _ ?_; clear hK K)) | simp only [go_sem] | with_reducible refine wA ?_ | clear hK K)
  refine AIf.part (fun h => ?_) (fun h => ?_)
  ·have eW := wrap_succ (k := i) (by (try simp only [bne_iff_ne, ne_eq, bne_eq_false_iff_eq, beq_iff_eq, beq_eq_false_iff_ne, decide_eq_true_eq, decide_eq_false_iff_not, Bool.not_eq_eq_eq_not, Int.natCast_inj, Int.ofNat_lt, Int.ofNat_le] at h); omega)
   have eL : ([AV.v (.bool false)] :: List.replicate n [AV.v (.bool false)]) = rwB (n + 1) (fun _ => false) := rwB_false (n + 1)
   repeat (first | (with_reducible first | refine Stp.up ?_ | refine fun (K : AK) hK => ?_ | (refine hK _ ?_; clear hK K)) | simp only [go_sem, eN, eW, eL, inObs_len, inObs_get1] | with_reducible refine wA ?_ | clear hK K)
   refine LNext.mk (i + 1) (by (try simp only [bne_iff_ne, ne_eq, bne_eq_false_iff_eq, beq_iff_eq, beq_eq_false_iff_ne, decide_eq_true_eq, decide_eq_false_iff_not, Bool.not_eq_eq_eq_not, Int.natCast_inj, Int.ofNat_lt, Int.ofNat_le] at h); omega) (by (try simp only [bne_iff_ne, ne_eq, bne_eq_false_iff_eq, beq_iff_eq, beq_eq_false_iff_ne, decide_eq_true_eq, decide_eq_false_iff_not, Bool.not_eq_eq_eq_not, Int.natCast_inj, Int.ofNat_lt, Int.ofNat_le] at h); omega) (wk_mk ?_ ?_ ?_)
   ·simp only [mObs, inObs_len, List.length_cons]
    simp only [go_sem, WkT, true_or, or_true, true_and, and_true]
    exact .inr (decide_eq_true (by omega))
   ·show WkO (mObs 0 (n + 1) (i + 1) (fun _ _ => false)).length _ (mObs 0 (n + 1) (i + 1) (fun _ _ => false))
    generalize hz : (mObs 0 (n + 1) (i + 1) (fun _ _ => false)).length = z
    have hz' : z = 2 * (i + 1) + 1 := by rw [← hz, mObs, List.length_cons, inObs_len]
    have hwf : wfR z (outRows 0 (n + 1) (i + 1)) = true := wf_outRows (by omega)
    simp only [mObs, inObs_succ]
    refine ⟨.inr ⟨by rw [outRows_succ0], fun ob e => by cases e; exact hwf⟩, wkO_app (fun ob h => wf_inObs _ _ _ _ _ h) ⟨.inr ⟨rfl, fun ob e => by cases e; exact wf_rwB _ _ _⟩, .inl rfl, trivial⟩⟩
   ·exact Nat.zero_le _
  ·have e1 : i = n + 1 := by (try simp only [bne_iff_ne, ne_eq, bne_eq_false_iff_eq, beq_iff_eq, beq_eq_false_iff_ne, decide_eq_true_eq, decide_eq_false_iff_not, Bool.not_eq_eq_eq_not, Int.natCast_inj, Int.ofNat_lt, Int.ofNat_le] at h); omega
   simp only [e1]
   repeat (first | (with_reducible first | refine Stp.up ?_ | refine fun (K : AK) hK => ?_ | (refine hK _ ?_; clear hK K)) | simp only [go_sem] | with_reducible refine wA ?_ | clear hK K)
   refine ⟨?_, ?_, Nat.zero_le _⟩
   ·exact ⟨.inr ⟨rfl, decide_eq_true (by simp [mObs])⟩, trivial⟩
   ·exact wkO_m (by simp [mObs, inObs_len])
theorem ren_rwB (f : Nat → Nat) (N : Nat) (g : Nat → Bool) : renR f (rwB N g) = rwB N g := renR_wf0 f _ (wf_rwB 0 N g)
theorem renR_snoc (f : Nat → Nat) : ∀ (a : List (List AV)) (b : List AV), renR f (a ++ [b]) = renR f a ++ [renL f b]
 | [], b => rfl
 | x :: a, b => by rw [List.cons_append, renR, renR_snoc f a b]; rfl
theorem ren_outRows (k N : Nat) : ∀ m, renR (sig [] k) (outRows 0 N m) = outRows k N m
 | 0 => rfl
 | m + 1 => by
  rw [outRows_succ, outRows_succ, renR_snoc, ren_outRows k N m]
  simp only [renR, renL, AV.ren, sig, List.length_nil, Nat.not_lt_zero, if_false, rid]
  rw [show k + (0 + 1 + 2 * m - 0) = k + 1 + 2 * m by omega]
theorem ren_mObs (k N : Nat) (f : Nat → Nat → Bool) : ∀ m, (mObs 0 N m f).map (Option.map (AObj.ren (sig [] k))) = mObs k N m f := fun m => by
 have h : ∀ m, (inObs N f m).map (Option.map (AObj.ren (sig [] k))) = inObs N f m := fun m => by
  induction m with
  | zero => rfl
  | succ m ih => rw [inObs_succ, List.map_append, ih]; simp only [List.map_cons, List.map_nil, rowO, Option.map_some, Option.map_none, AObj.ren, ren_rwB]
 rw [mObs, List.map_cons, h, Option.map_some, AObj.ren, mObs]
 simp only [ren_outRows]
theorem ACallV.none07 {n : Nat} {o : List (Option AObj)} {K : AV → List (Option AObj) → Prop} (hn : n ≤ 1000) (k : K (.vec o.length (n + 1)) (o ++ mObs o.length (n + 1) (n + 1) (fun _ _ => false))) : ACallV Tryd.prog 84 [.v (.int .i64 n)] o K := by
 refine ACallV.fr [] (none07_e n hn) List.nodup_nil rfl rfl rfl (fun k ob h => by simp at h) ?_
 have e1 : (AV.vec 0 (n + 1)).ren (sig [] o.length) = .vec o.length (n + 1) := rfl
 rw [e1, putO, ren_mObs]; exact k
theorem mObs_len (k N m : Nat) (f : Nat → Nat → Bool) : (mObs k N m f).length = 2 * m + 1 := by rw [mObs, List.length_cons, inObs_len]
theorem wk_m {t t' : List AV} {y : YSt} {N m : Nat} {f : Nat → Nat → Bool} (h : WkT (2 * m + 1) t t') : Wk 0 ⟨t, some ⟨42, 1, true, outRows 0 N m⟩ :: inObs N f m, y⟩ ⟨t', mObs 0 N m f, y⟩ :=
 wk_mk (by rw [mObs_len]; exact h) (by rw [mObs_len]; exact wkO_m (by omega)) (Nat.zero_le _)
def eqB (i j : Nat) : Bool := decide (i = j)
def eqAt (i p q : Nat) : Bool := decide (p = q) && decide (p < i)
theorem eqAt_succ (i : Nat) : upd2 (eqAt i) i i true = eqAt (i + 1) := by
 funext p q
 rw [upd2, eqAt, eqAt]
 split
 ·rename_i h; obtain ⟨rfl, rfl⟩ := h; simp
 ·rename_i h
  by_cases hpq : p = q
  ·have : (p < i ↔ p < i + 1) := by omega
   simp [hpq, ← this]; omega
  ·simp [hpq]
set_option maxRecDepth 100000 in
set_option maxHeartbeats 4000000 in
theorem still07_c (n : Nat) (hn : n ≤ 1000) : Call1 Tryd.prog 85 [.v (.int .i64 n)] (.slc 1 (mxB (n + 1) eqB) (n + 1)) := by
 have hd : decide (0 < 2 * (n + 1) + 1) = true := decide_eq_true (by omega)
 refine CallN.to1 ?_
 (refine CallN.enter Tryd.func85 rfl (by kernel_rfl) (by kernel_rfl) rfl (by simp only [go_sem, wfL, AV.wf, Bool.and_self, Bool.and_true, Bool.true_and, Go.undef]) (by simp only [go_sem, wfL, AV.wf, wf_encS, Bool.and_self, Bool.and_true, Bool.true_and, Go.undef]) ?_; simp only [Tryd.ntmps85, Tryd.results85, List.length_cons, List.length_nil, Nat.reduceAdd, Nat.reduceSub, List.replicate_succ, List.replicate_zero, List.cons_append, List.nil_append])
 repeat (first | (with_reducible first | refine Stp.up ?_ | refine fun (K : AK) hK => ?_ | (refine hK _ ?_; clear hK K)) | simp only [go_sem] | with_reducible refine wA ?_ | clear hK K)
 refine ACallV.none07 hn ?_
 simp only [List.length_nil, List.nil_append]
 repeat (first | (with_reducible first | refine Stp.up ?_ | refine fun (K : AK) hK => ?_ | (refine hK _ ?_; clear hK K)) | simp only [go_sem] | with_reducible refine wA ?_ | clear hK K)
 refine awp_loopO (ι := Nat) 7 (fun i => [(4, .v (.int .i64 i))]) (fun i => mObs 0 (n + 1) (n + 1) (eqAt i)) (fun i => n + 1 - i) (fun i => i ≤ n + 1) 0 (by omega) ?_ ?_
 ·have e0 : (fun _ _ => false) = eqAt 0 := by funext p q; simp [eqAt]
  rw [e0]
  refine wk_m ?_
  simp only [go_sem, WkT, true_or, or_true, true_and, and_true, hd]
  exact .inr rfl
 ·intro i hi K hK
  simp only [mObs]
  repeat (first | (with_reducible first | refine Stp.up ?_ | refine fun (K : AK) hK => ?_ | (refine hK _ ?_; clear hK K)) | simp only [go_sem] | with_reducible refine wA ?_ | clear hK K)
  refine AIf.part (fun h => ?_) (fun h => ?_)
  ·have hlt : i < n + 1 := by (try simp only [decide_eq_true_eq, decide_eq_false_iff_not, Int.ofNat_le] at h); omega
   have eW := wrap_succ (k := i) (by (try simp only [decide_eq_true_eq, decide_eq_false_iff_not, Int.ofNat_le] at h); omega)
   have eO := outRows_at (k := 0) (N := n + 1) hlt
   have hO : ∀ x, (x :: inObs (n + 1) (eqAt i) (n + 1))[rid 0 i]? = _ := fun x => mObs_get (k := 0) (x := x) hlt
   have eR := rwB_at (g := eqAt i i) hlt
   have eS := fun x => mObs_set (N := n + 1) (j := i) (f := eqAt i) (v := true) (x := x) hlt
   repeat (first | (with_reducible first | refine Stp.up ?_ | refine fun (K : AK) hK => ?_ | (refine hK _ ?_; clear hK K)) | simp only [go_sem, eW, eO, hO, rowO, eR, eS, eqAt_succ] | with_reducible refine wA ?_ | clear hK K)
   refine LNext.mk (i + 1) (by omega) (by omega) (wk_m ?_)
   simp only [go_sem, WkT, true_or, or_true, true_and, and_true, hd]
  ·have e1 : i = n + 1 := by (try simp only [decide_eq_true_eq, decide_eq_false_iff_not, Int.ofNat_le] at h); omega
   have eA : inObs (n + 1) (eqAt (n + 1)) (n + 1) = inObs (n + 1) eqB (n + 1) := inObs_eq fun p q hp _ => by simp [eqAt, eqB, hp]
   simp only [e1]
   repeat (first | (with_reducible first | refine Stp.up ?_ | refine fun (K : AK) hK => ?_ | (refine hK _ ?_; clear hK K)) | simp only [go_sem] | with_reducible refine wA ?_ | clear hK K)
   rw [eA]
   exact mObs_frz _ _
def orB (a b : Nat → Nat → Bool) (i j : Nat) : Bool := decide (i ≤ j) && (a i j || b i j)
def orAt (a b : Nat → Nat → Bool) (i j p q : Nat) : Bool := decide (p < i ∨ (p = i ∧ q < j)) && orB a b p q
theorem orAt_step {a b : Nat → Nat → Bool} {i j : Nat} (h : i ≤ j) : upd2 (orAt a b i j) i j (a i j || b i j) = orAt a b i (j + 1) := by
 funext p q
 rw [upd2, orAt, orAt]
 split
 ·rename_i e; obtain ⟨rfl, rfl⟩ := e
  simp [orB, h]
 ·rename_i e
  congr 1
  rw [decide_eq_decide]; omega
theorem orAt_row {a b : Nat → Nat → Bool} {i : Nat} : orAt a b i i = orAt a b i 0 := by
 funext p q
 rw [orAt, orAt, Bool.eq_iff_iff]
 simp only [orB, Bool.and_eq_true, decide_eq_true_eq]
 constructor
 ·rintro ⟨h1, h2, h3⟩; exact ⟨by omega, h2, h3⟩
 ·rintro ⟨h1, h2, h3⟩; exact ⟨by omega, h2, h3⟩
theorem orAt_next {a b : Nat → Nat → Bool} {N i : Nat} : inObs N (orAt a b i N) N = inObs N (orAt a b (i + 1) 0) N := inObs_eq fun p q hp hq => by
 rw [orAt, orAt]; congr 1; rw [decide_eq_decide]; omega
set_option maxRecDepth 100000 in
set_option maxHeartbeats 4000000 in
theorem either07_c (n : Nat) (a b : Nat → Nat → Bool) (hn : n ≤ 1000) : Call1 Tryd.prog 87 [.slc 1 (mxB (n + 1) a) (n + 1), .slc 1 (mxB (n + 1) b) (n + 1)] (.slc 1 (mxB (n + 1) (orB a b)) (n + 1)) := by
 have hd : decide (0 < 2 * (n + 1) + 1) = true := decide_eq_true (by omega)
 have eN : IntKind.i64.wrap (((n + 1 : Nat) : Int) - 1) = (n : Int) := by rw [wrap_id (by omega) (by omega)]; omega
 refine CallN.to1 ?_
 (refine CallN.enter Tryd.func87 rfl (by kernel_rfl) (by kernel_rfl) rfl (by simp only [go_sem, wfL, AV.wf, Bool.and_self, Bool.and_true, Bool.true_and, Go.undef]) (by simp only [go_sem, wfL, AV.wf, wf_encS, Bool.and_self, Bool.and_true, Bool.true_and, Go.undef]) ?_; simp only [Tryd.ntmps87, Tryd.results87, List.length_cons, List.length_nil, Nat.reduceAdd, Nat.reduceSub, List.replicate_succ, List.replicate_zero, List.cons_append, List.nil_append])
 repeat (first | (with_reducible first | refine Stp.up ?_ | refine fun (K : AK) hK => ?_ | refine wE ?_ | refine wK ?_ | refine wF ?_ | (refine hK _ ?_; clear hK K)) | simp only [go_sem, eN] | with_reducible refine wA ?_ | clear hK K)
 refine ACallV.none07 hn ?_
 simp only [List.length_nil, List.nil_append]
 repeat (first | (with_reducible first | refine Stp.up ?_ | refine fun (K : AK) hK => ?_ | refine wE ?_ | refine wK ?_ | refine wF ?_ | (refine hK _ ?_; clear hK K)) | simp only [go_sem] | with_reducible refine wA ?_ | clear hK K)
 refine awp_loopO (ι := Nat) 12 (fun i => [(6, .v (.int .i64 i)), (7, .undef)]) (fun i => mObs 0 (n + 1) (n + 1) (orAt a b i 0)) (fun i => n + 1 - i) (fun i => i ≤ n + 1) 0 (by omega) ?_ ?_
 ·have e0 : (fun _ _ => false) = orAt a b 0 0 := by funext p q; simp [orAt]
  rw [e0]
  refine wk_m ?_
  simp only [go_sem, WkT, true_or, or_true, true_and, and_true, hd]
  exact .inr rfl
 ·intro i hi K hK
  simp only [mObs]
  repeat (first | (with_reducible first | refine Stp.up ?_ | refine fun (K : AK) hK => ?_ | refine wE ?_ | refine wK ?_ | refine wF ?_ | (refine hK _ ?_; clear hK K)) | simp only [go_sem] | with_reducible refine wA ?_ | clear hK K)
  refine AIf.part (fun h => ?_) (fun h => ?_)
  ·have hlt : i < n + 1 := by (try simp only [decide_eq_true_eq, decide_eq_false_iff_not, Int.ofNat_lt] at h); omega
   have eW := wrap_succ (k := i) (by omega)
   have eO := outRows_at (k := 0) (N := n + 1) hlt
   have eA := mxB_at (f := a) hlt
   have eB := mxB_at (f := b) hlt
   repeat (first | (with_reducible first | refine Stp.up ?_ | refine fun (K : AK) hK => ?_ | refine wE ?_ | refine wK ?_ | refine wF ?_ | (refine hK _ ?_; clear hK K)) | simp only [go_sem] | with_reducible refine wA ?_ | clear hK K)
   refine awp_loopO (ι := Nat) 19 (fun j => [(7, .v (.int .i64 j))]) (fun j => mObs 0 (n + 1) (n + 1) (orAt a b i j)) (fun j => n + 1 - j) (fun j => i ≤ j ∧ j ≤ n + 1) i (by omega) ?_ ?_
   ·rw [orAt_row]
    refine wk_m ?_
    simp only [go_sem, WkT, true_or, or_true, true_and, and_true, hd]
   ·rintro j ⟨hj1, hj2⟩ K hK
    simp only [mObs]
    repeat (first | (with_reducible first | refine Stp.up ?_ | refine fun (K : AK) hK => ?_ | refine wE ?_ | refine wK ?_ | refine wF ?_ | (refine hK _ ?_; clear hK K)) | simp only [go_sem] | with_reducible refine wA ?_ | clear hK K)
    refine AIf.part (fun h => ?_) (fun h => ?_)
    ·have hjt : j < n + 1 := by (try simp only [decide_eq_true_eq, decide_eq_false_iff_not, Int.ofNat_lt] at h); omega
     have eV := wrap_succ (k := j) (by omega)
     have eA2 := rwB_at (g := a i) hjt
     have eB2 := rwB_at (g := b i) hjt
     have hO : ∀ x, (x :: inObs (n + 1) (orAt a b i j) (n + 1))[rid 0 i]? = _ := fun x => mObs_get (k := 0) (x := x) hlt
     have eR := rwB_at (g := orAt a b i j i) hjt
     have eS := fun x v => mObs_set (N := n + 1) (j := j) (f := orAt a b i j) (v := v) (x := x) hlt
     have eU := orAt_step (a := a) (b := b) hj1
     cases ha : a i j
     ·rw [ha, Bool.false_or] at eU
      repeat (first | (with_reducible first | refine Stp.up ?_ | refine fun (K : AK) hK => ?_ | refine wE ?_ | refine wK ?_ | refine wF ?_ | (refine hK _ ?_; clear hK K)) | simp only [go_sem, eV, eO, eA, eB, eA2, eB2, ha, hO, rowO, eR, eS, eU, Go.undef] | with_reducible refine wA ?_ | clear hK K)
      refine LNext.mk (j + 1) ⟨by omega, by omega⟩ (by omega) (wk_m ?_)
      simp only [go_sem, WkT, true_or, or_true, true_and, and_true, hd, wf_mxB, AV.wf]
     ·rw [ha, Bool.true_or] at eU
      repeat (first | (with_reducible first | refine Stp.up ?_ | refine fun (K : AK) hK => ?_ | refine wE ?_ | refine wK ?_ | refine wF ?_ | (refine hK _ ?_; clear hK K)) | simp only [go_sem, eV, eO, eA, eB, eA2, eB2, ha, hO, rowO, eR, eS, eU, Go.undef] | with_reducible refine wA ?_ | clear hK K)
      refine LNext.mk (j + 1) ⟨by omega, by omega⟩ (by omega) (wk_m ?_)
      simp only [go_sem, WkT, true_or, or_true, true_and, and_true, hd, wf_mxB, AV.wf]
    ·have e1 : j = n + 1 := by (try simp only [decide_eq_true_eq, decide_eq_false_iff_not, Int.ofNat_lt] at h); omega
     simp only [e1, orAt_next]
     repeat (first | (with_reducible first | refine Stp.up ?_ | refine fun (K : AK) hK => ?_ | refine wE ?_ | refine wK ?_ | refine wF ?_ | (refine hK _ ?_; clear hK K)) | simp only [go_sem, eW] | with_reducible refine wA ?_ | clear hK K)
     refine LNext.mk (i + 1) (by omega) (by omega) (wk_m ?_)
     simp only [go_sem, WkT, true_or, or_true, true_and, and_true, hd, wf_mxB, AV.wf]
  ·have e1 : i = n + 1 := by (try simp only [decide_eq_true_eq, decide_eq_false_iff_not, Int.ofNat_lt] at h); omega
   have eA : inObs (n + 1) (orAt a b (n + 1) 0) (n + 1) = inObs (n + 1) (orB a b) (n + 1) := inObs_eq fun p q hp _ => by simp [orAt, hp]
   simp only [e1]
   repeat (first | (with_reducible first | refine Stp.up ?_ | refine fun (K : AK) hK => ?_ | refine wE ?_ | refine wK ?_ | refine wF ?_ | (refine hK _ ?_; clear hK K)) | simp only [go_sem] | with_reducible refine wA ?_ | clear hK K)
   rw [eA]
   exact mObs_frz _ _
def thenB (N : Nat) (a b : Nat → Nat → Bool) (i j : Nat) : Bool := (List.range N).any fun k => decide (i ≤ k ∧ k ≤ j) && (a i k && b k j)
theorem thenB_iff {N : Nat} {a b : Nat → Nat → Bool} {i j : Nat} : thenB N a b i j = true ↔ ∃ k, k < N ∧ i ≤ k ∧ k ≤ j ∧ a i k = true ∧ b k j = true := by
 simp only [thenB, List.any_eq_true, List.mem_range, Bool.and_eq_true, decide_eq_true_eq, and_assoc]
def thAt (N : Nat) (a b : Nat → Nat → Bool) (i k j p q : Nat) : Bool :=
 if p < i then thenB N a b p q else if p = i then (List.range k).any (fun k' => decide (i ≤ k' ∧ k' ≤ q) && (a i k' && b k' q)) || (decide (k ≤ q ∧ q < j) && (a i k && b k q)) else false
theorem thAt_step {N : Nat} {a b : Nat → Nat → Bool} {i k j : Nat} (h : k ≤ j) (ha : a i k = true) : upd2 (thAt N a b i k j) i j (thAt N a b i k j i j || b k j) = thAt N a b i k (j + 1) := by
 funext p q
 rw [upd2]
 split
 ·rename_i e; obtain ⟨rfl, rfl⟩ := e
  simp only [thAt, if_neg (Nat.lt_irrefl _), if_true, ha, Bool.true_and]
  have h1 : decide (k ≤ q ∧ q < q) = false := decide_eq_false (by omega)
  have h2 : decide (k ≤ q ∧ q < q + 1) = true := decide_eq_true (by omega)
  rw [h1, h2]; simp
 ·rename_i e
  simp only [thAt]
  split
  ·rfl
  ·split
   ·rename_i h1 h2; subst h2
    congr 2
    rw [decide_eq_decide]
    have : q ≠ j := fun e' => e ⟨rfl, e'⟩
    omega
   ·rfl
theorem thAt_k {N : Nat} {a b : Nat → Nat → Bool} {i k : Nat} (hi : i ≤ k) (hk : a i k = false ∨ True) : inObs N (thAt N a b i k (if a i k then N else k)) N = inObs N (thAt N a b i (k + 1) (k + 1)) N := inObs_eq fun p q hp hq => by
 simp only [thAt]
 split
 ·rfl
 ·split
  ·rw [List.range_succ, List.any_append, Bool.or_assoc]
   congr 1
   have h2 : decide (k + 1 ≤ q ∧ q < k + 1) = false := decide_eq_false (by omega)
   rw [h2]
   simp only [List.any_cons, List.any_nil, Bool.or_false, Bool.false_and]
   cases hh : a i k
   ·simp
   ·have : (k ≤ q ∧ q < N) = (i ≤ k ∧ k ≤ q) := by apply propext; omega
    simp [this]
  ·rfl
theorem thAt_row {N : Nat} {a b : Nat → Nat → Bool} {i : Nat} : inObs N (thAt N a b i N N) N = inObs N (thAt N a b (i + 1) (i + 1) (i + 1)) N := inObs_eq fun p q hp hq => by
 simp only [thAt]
 by_cases h1 : p < i
 ·rw [if_pos h1, if_pos (by omega)]
 ·rw [if_neg h1]
  by_cases h2 : p = i
  ·subst h2
   rw [if_pos rfl, if_pos (by omega)]
   have h3 : decide (N ≤ q ∧ q < N) = false := decide_eq_false (by omega)
   rw [h3, Bool.false_and, Bool.or_false]; rfl
  ·rw [if_neg h2, if_neg (by omega)]
   by_cases h4 : p = i + 1
   ·rw [if_pos h4]
    have h5 : (List.range (i + 1)).any (fun k' => decide (i + 1 ≤ k' ∧ k' ≤ q) && (a (i + 1) k' && b k' q)) = false := by
     rw [List.any_eq_false]
     intro x hx
     have := List.mem_range.1 hx
     have h6 : decide (i + 1 ≤ x ∧ x ≤ q) = false := decide_eq_false (by omega)
     rw [h6]; simp
    have h7 : decide (i + 1 ≤ q ∧ q < i + 1) = false := decide_eq_false (by omega)
    rw [h5, h7]; simp
   ·rw [if_neg h4]
theorem thAt_0 {N : Nat} {a b : Nat → Nat → Bool} : (fun _ _ => false) = thAt N a b 0 0 0 := by
 funext p q
 simp [thAt]
set_option maxRecDepth 100000 in
set_option maxHeartbeats 4000000 in
theorem joined07_c (n : Nat) (a b : Nat → Nat → Bool) (hn : n ≤ 1000) : Call1 Tryd.prog 86 [.slc 1 (mxB (n + 1) a) (n + 1), .slc 1 (mxB (n + 1) b) (n + 1)] (.slc 1 (mxB (n + 1) (thenB (n + 1) a b)) (n + 1)) := by
 have hd : decide (0 < 2 * (n + 1) + 1) = true := decide_eq_true (by omega)
 have eN : IntKind.i64.wrap (((n + 1 : Nat) : Int) - 1) = (n : Int) := by rw [wrap_id (by omega) (by omega)]; omega
 refine CallN.to1 ?_
 (refine CallN.enter Tryd.func86 rfl (by kernel_rfl) (by kernel_rfl) rfl (by simp only [go_sem, wfL, AV.wf, Bool.and_self, Bool.and_true, Bool.true_and, Go.undef]) (by simp only [go_sem, wfL, AV.wf, wf_encS, Bool.and_self, Bool.and_true, Bool.true_and, Go.undef]) ?_; simp only [Tryd.ntmps86, Tryd.results86, List.length_cons, List.length_nil, Nat.reduceAdd, Nat.reduceSub, List.replicate_succ, List.replicate_zero, List.cons_append, List.nil_append])
 repeat (first | (with_reducible first | refine Stp.up ?_ | refine fun (K : AK) hK => ?_ | refine wE ?_ | refine wK ?_ | refine wF ?_ | (refine hK _ ?_; clear hK K)) | simp only [go_sem, eN] | with_reducible refine wA ?_ | clear hK K)
 refine ACallV.none07 hn ?_
 simp only [List.length_nil, List.nil_append]
 repeat (first | (with_reducible first | refine Stp.up ?_ | refine fun (K : AK) hK => ?_ | refine wE ?_ | refine wK ?_ | refine wF ?_ | (refine hK _ ?_; clear hK K)) | simp only [go_sem] | with_reducible refine wA ?_ | clear hK K)
 refine awp_loopO (ι := Nat) 13 (fun i => [(6, .v (.int .i64 i)), (7, .undef), (8, .undef)]) (fun i => mObs 0 (n + 1) (n + 1) (thAt (n + 1) a b i i i)) (fun i => n + 1 - i) (fun i => i ≤ n + 1) 0 (by omega) ?_ ?_
 ·rw [thAt_0 (N := n + 1) (a := a) (b := b)]
  refine wk_m ?_
  simp only [go_sem, WkT, true_or, or_true, true_and, and_true, hd]
  exact .inr rfl
 ·intro i hi K hK
  simp only [mObs]
  repeat (first | (with_reducible first | refine Stp.up ?_ | refine fun (K : AK) hK => ?_ | refine wE ?_ | refine wK ?_ | refine wF ?_ | (refine hK _ ?_; clear hK K)) | simp only [go_sem] | with_reducible refine wA ?_ | clear hK K)
  refine AIf.part (fun h => ?_) (fun h => ?_)
  ·have hlt : i < n + 1 := by (try simp only [decide_eq_true_eq, decide_eq_false_iff_not, Int.ofNat_lt] at h); omega
   have eW := wrap_succ (k := i) (by omega)
   have eO := outRows_at (k := 0) (N := n + 1) hlt
   have eA := mxB_at (f := a) hlt
   repeat (first | (with_reducible first | refine Stp.up ?_ | refine fun (K : AK) hK => ?_ | refine wE ?_ | refine wK ?_ | refine wF ?_ | (refine hK _ ?_; clear hK K)) | simp only [go_sem] | with_reducible refine wA ?_ | clear hK K)
   refine awp_loopO (ι := Nat) 20 (fun k => [(7, .v (.int .i64 k)), (8, .undef)]) (fun k => mObs 0 (n + 1) (n + 1) (thAt (n + 1) a b i k k)) (fun k => n + 1 - k) (fun k => i ≤ k ∧ k ≤ n + 1) i (by omega) ?_ ?_
   ·refine wk_m ?_
    simp only [go_sem, WkT, true_or, or_true, true_and, and_true, hd]
   ·rintro k ⟨hk1, hk2⟩ K hK
    simp only [mObs]
    repeat (first | (with_reducible first | refine Stp.up ?_ | refine fun (K : AK) hK => ?_ | refine wE ?_ | refine wK ?_ | refine wF ?_ | (refine hK _ ?_; clear hK K)) | simp only [go_sem] | with_reducible refine wA ?_ | clear hK K)
    refine AIf.part (fun h => ?_) (fun h => ?_)
    ·have hkt : k < n + 1 := by (try simp only [decide_eq_true_eq, decide_eq_false_iff_not, Int.ofNat_lt] at h); omega
     have eV := wrap_succ (k := k) (by omega)
     have eA2 := rwB_at (g := a i) hkt
     have eB := mxB_at (f := b) hkt
     have eK := thAt_k (N := n + 1) (a := a) (b := b) hk1 (.inr trivial)
     repeat (first | (with_reducible first | refine Stp.up ?_ | refine fun (K : AK) hK => ?_ | refine wE ?_ | refine wK ?_ | refine wF ?_ | (refine hK _ ?_; clear hK K)) | simp only [go_sem] | with_reducible refine wA ?_ | clear hK K)
     refine awp_loopO (ι := Nat) 27 (fun j => [(8, .v (.int .i64 j))]) (fun j => mObs 0 (n + 1) (n + 1) (thAt (n + 1) a b i k j)) (fun j => n + 1 - j) (fun j => k ≤ j ∧ j ≤ n + 1 ∧ (a i k = false → j = k)) k ⟨by omega, by omega, fun _ => rfl⟩ ?_ ?_
     ·refine wk_m ?_
      simp only [go_sem, WkT, true_or, or_true, true_and, and_true, hd]
     ·rintro j ⟨hj1, hj2, hj3⟩ K hK
      simp only [mObs]
      cases ha : a i k
      ·have hj := hj3 ha
       rw [ha] at eK
       simp only [Bool.false_eq_true, if_false] at eK
       repeat (first | (with_reducible first | refine Stp.up ?_ | refine fun (K : AK) hK => ?_ | refine wE ?_ | refine wK ?_ | refine wF ?_ | (refine hK _ ?_; clear hK K)) | simp only [go_sem, eA, eA2, ha, Go.undef] | with_reducible refine wA ?_ | clear hK K)
       simp only [hj, eK]
       repeat (first | (with_reducible first | refine Stp.up ?_ | refine fun (K : AK) hK => ?_ | refine wE ?_ | refine wK ?_ | refine wF ?_ | (refine hK _ ?_; clear hK K)) | simp only [go_sem, eV] | with_reducible refine wA ?_ | clear hK K)
       refine LNext.mk (k + 1) ⟨by omega, by omega⟩ (by omega) (wk_m ?_)
       simp only [go_sem, WkT, true_or, or_true, true_and, and_true, hd, wf_mxB, AV.wf]
      ·rw [ha] at eK
       simp only [if_true] at eK
       rcases Bool.eq_false_or_eq_true (decide ((j : Int) < ((n + 1 : Nat) : Int))) with hj | hj
       ·have hjt : j < n + 1 := by (try simp only [decide_eq_true_eq, decide_eq_false_iff_not, Int.ofNat_lt] at hj); omega
        have eJ := wrap_succ (k := j) (by omega)
        have eB2 := rwB_at (g := b k) hjt
        have hO : ∀ x, (x :: inObs (n + 1) (thAt (n + 1) a b i k j) (n + 1))[rid 0 i]? = _ := fun x => mObs_get (k := 0) (x := x) hlt
        have eR := rwB_at (g := thAt (n + 1) a b i k j i) hjt
        have eS := fun x v => mObs_set (N := n + 1) (j := j) (f := thAt (n + 1) a b i k j) (v := v) (x := x) hlt
        have eU := thAt_step (N := n + 1) (b := b) hj1 ha
        cases hv : thAt (n + 1) a b i k j i j
        ·rw [hv, Bool.false_or] at eU
         repeat (first | (with_reducible first | refine Stp.up ?_ | refine fun (K : AK) hK => ?_ | refine wE ?_ | refine wK ?_ | refine wF ?_ | (refine hK _ ?_; clear hK K)) | simp only [go_sem, eJ, eA, eA2, ha, hj, eO, eB, eB2, hO, hv, rowO, eR, eS, eU, Go.undef] | with_reducible refine wA ?_ | clear hK K)
         refine LNext.mk (j + 1) ⟨by omega, by omega⟩ (by omega) (wk_m ?_)
         simp only [go_sem, WkT, true_or, or_true, true_and, and_true, hd, wf_mxB, AV.wf]
        ·rw [hv, Bool.true_or] at eU
         repeat (first | (with_reducible first | refine Stp.up ?_ | refine fun (K : AK) hK => ?_ | refine wE ?_ | refine wK ?_ | refine wF ?_ | (refine hK _ ?_; clear hK K)) | simp only [go_sem, eJ, eA, eA2, ha, hj, eO, eB, eB2, hO, hv, rowO, eR, eS, eU, Go.undef] | with_reducible refine wA ?_ | clear hK K)
         refine LNext.mk (j + 1) ⟨by omega, by omega⟩ (by omega) (wk_m ?_)
         simp only [go_sem, WkT, true_or, or_true, true_and, and_true, hd, wf_mxB, AV.wf]
       ·have hje : j = n + 1 := by (try simp only [decide_eq_true_eq, decide_eq_false_iff_not, Int.ofNat_lt] at hj); omega
        repeat (first | (with_reducible first | refine Stp.up ?_ | refine fun (K : AK) hK => ?_ | refine wE ?_ | refine wK ?_ | refine wF ?_ | (refine hK _ ?_; clear hK K)) | simp only [go_sem, eA, eA2, ha, hj, Go.undef] | with_reducible refine wA ?_ | clear hK K)
        simp only [hje, eK]
        repeat (first | (with_reducible first | refine Stp.up ?_ | refine fun (K : AK) hK => ?_ | refine wE ?_ | refine wK ?_ | refine wF ?_ | (refine hK _ ?_; clear hK K)) | simp only [go_sem, eV] | with_reducible refine wA ?_ | clear hK K)
        refine LNext.mk (k + 1) ⟨by omega, by omega⟩ (by omega) (wk_m ?_)
        simp only [go_sem, WkT, true_or, or_true, true_and, and_true, hd, wf_mxB, AV.wf]
    ·have e1 : k = n + 1 := by (try simp only [decide_eq_true_eq, decide_eq_false_iff_not, Int.ofNat_lt] at h); omega
     simp only [e1, thAt_row]
     repeat (first | (with_reducible first | refine Stp.up ?_ | refine fun (K : AK) hK => ?_ | refine wE ?_ | refine wK ?_ | refine wF ?_ | (refine hK _ ?_; clear hK K)) | simp only [go_sem, eW] | with_reducible refine wA ?_ | clear hK K)
     refine LNext.mk (i + 1) (by omega) (by omega) (wk_m ?_)
     simp only [go_sem, WkT, true_or, or_true, true_and, and_true, hd, wf_mxB, AV.wf]
  ·have e1 : i = n + 1 := by (try simp only [decide_eq_true_eq, decide_eq_false_iff_not, Int.ofNat_lt] at h); omega
   have eA : inObs (n + 1) (thAt (n + 1) a b (n + 1) (n + 1) (n + 1)) (n + 1) = inObs (n + 1) (thenB (n + 1) a b) (n + 1) := inObs_eq fun p q hp _ => by simp [thAt, hp]
   simp only [e1]
   repeat (first | (with_reducible first | refine Stp.up ?_ | refine fun (K : AK) hK => ?_ | refine wE ?_ | refine wK ?_ | refine wF ?_ | (refine hK _ ?_; clear hK K)) | simp only [go_sem] | with_reducible refine wA ?_ | clear hK K)
   rw [eA]
   exact mObs_frz _ _
end Go.Proofs.YtmdkgajjekbanaaDoor
