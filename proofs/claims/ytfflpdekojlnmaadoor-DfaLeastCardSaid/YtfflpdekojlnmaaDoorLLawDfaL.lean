/- kinescopelaw09: apart: all pairs of states, told apart. -/
import Derived.Test.YtfflpdekojlnmaaDoorLDfaW
set_option linter.unusedSimpArgs false
set_option linter.unusedVariables false
namespace Go.Proofs.YtfflpdekojlnmaaDoor
open Go.RowKit

attribute [go_sem] wf_autoV
/-! ### rows of truths in a row of n, m of them made -/
def apRow (n m : Nat) : List (List AV) := (List.range n).map (fun i => if i < m then [AV.vec (i + 1) n] else [.v (.slice none 0 0)])
def apIn (n : Nat) (F : Nat → Nat → Bool) (m : Nat) : List (Option AObj) := (List.range m).map (fun i => rowO n (F i))
def apO (n m : Nat) : Option AObj := some ⟨35, 1, true, apRow n m⟩
theorem apRow_len (n m : Nat) : (apRow n m).length = n := by simp [apRow]
theorem apIn_len (n : Nat) (F : Nat → Nat → Bool) (m : Nat) : (apIn n F m).length = m := by simp [apIn]
theorem apRow_zero (n : Nat) : List.replicate n [AV.v (.slice none 0 0)] = apRow n 0 := by
 refine List.ext_getElem (by simp [apRow]) fun i h1 h2 => by simp [apRow]
theorem apRow_set {n m : Nat} : (apRow n m).set m [.vec (m + 1) n] = apRow n (m + 1) := by
 refine List.ext_getElem (by simp [apRow]) fun i h1 h2 => ?_
 rw [List.getElem_set]
 simp only [apRow, List.getElem_map, List.getElem_range]
 by_cases e : m = i
 ·subst e; rw [if_pos rfl, if_pos (by omega)]
 ·rw [if_neg e]
  by_cases e2 : i < m
  ·rw [if_pos e2, if_pos (by omega)]
  ·rw [if_neg e2, if_neg (by omega)]
theorem apRow_at {n m i : Nat} (h : i < m) (hn : i < n) : (apRow n m).getD i [] = [.vec (i + 1) n] := by
 rw [List.getD_eq_getElem?_getD, apRow, List.getElem?_map, List.getElem?_range hn]
 simp [h]
theorem apRow_none {n i : Nat} (hn : i < n) : (apRow n i).getD i [] = [.v (.slice none 0 0)] := by
 rw [List.getD_eq_getElem?_getD, apRow, List.getElem?_map, List.getElem?_range hn]
 simp
theorem apIn_get {n m i : Nat} {F : Nat → Nat → Bool} {x : Option AObj} (h : i < m) : (x :: apIn n F m)[i + 1]? = some (rowO n (F i)) := by
 rw [List.getElem?_cons_succ, apIn, List.getElem?_map, List.getElem?_range h]; rfl
theorem apIn_set {n m i j : Nat} {F : Nat → Nat → Bool} {v : Bool} {x : Option AObj} : (x :: apIn n F m).set (i + 1) (some ⟨4, 1, true, (rwB n (F i)).set j [.v (.bool v)]⟩) = x :: apIn n (upd2 F i j v) m := by
 rw [List.set_cons_succ]
 congr 1
 refine List.ext_getElem (by simp [apIn]) fun p h1 h2 => ?_
 rw [List.getElem_set]
 simp only [apIn, List.getElem_map, List.getElem_range]
 by_cases e : i = p
 ·subst e
  rw [if_pos rfl, rowO, rwB_set]
  congr 2
  refine rwB_eq fun q _ => ?_
  rw [upd2]
  by_cases hq : q = j
  ·rw [if_pos hq, if_pos ⟨rfl, hq⟩]
  ·rw [if_neg hq, if_neg (fun e => hq e.2)]
 ·rw [if_neg e]
  congr 1
  funext q
  rw [upd2, if_neg (fun e2 => e e2.1.symm)]
theorem apIn_succ (n m : Nat) (F : Nat → Nat → Bool) : apIn n F (m + 1) = apIn n F m ++ [rowO n (F m)] := by rw [apIn, List.range_succ, List.map_append]; rfl
theorem apIn_eq {n m : Nat} {F G : Nat → Nat → Bool} (e : ∀ i j, i < m → j < n → F i j = G i j) : apIn n F m = apIn n G m := by
 refine List.map_congr_left fun i hi => ?_
 rw [rowO, rowO, rwB_eq (fun j hj => e i j (List.mem_range.1 hi) hj)]
def apG (F : Nat → Nat → Bool) (m k : Nat) : Nat → Nat → Bool := fun i j => if i < m ∨ j < k then F i j else false
theorem apG_set {n m k : Nat} {F : Nat → Nat → Bool} : apIn n (upd2 (apG F m k) m k (F m k)) (m + 1) = apIn n (apG F m (k + 1)) (m + 1) := apIn_eq fun i j hi hj => by
 unfold upd2 apG
 by_cases e : i = m ∧ j = k
 ·obtain ⟨rfl, rfl⟩ := e
  rw [if_pos ⟨rfl, rfl⟩, if_pos (.inr (Nat.lt_succ_self _))]
 ·rw [if_neg e]
  by_cases h : i < m ∨ j < k
  ·rw [if_pos h, if_pos (by omega)]
  ·rw [if_neg h, if_neg (by omega)]
theorem apG_zero {n m : Nat} {F : Nat → Nat → Bool} : apIn n F m ++ [rowO n (fun _ => false)] = apIn n (apG F m 0) (m + 1) := by
 rw [apIn_succ]
 congr 1
 ·exact apIn_eq fun i j hi hj => by unfold apG; rw [if_pos (.inl hi)]
 ·congr 2
  funext j
  unfold apG; rw [if_neg (by omega)]
theorem apG_all {n m : Nat} {F : Nat → Nat → Bool} : apIn n (apG F m n) (m + 1) = apIn n F (m + 1) := apIn_eq fun i j hi hj => by unfold apG; rw [if_pos (.inr hj)]
theorem wfR_mem {n : Nat} : ∀ {l : List (List AV)}, (∀ r ∈ l, wfL n r = true) → wfR n l = true
 | [], _ => rfl
 | a :: l, h => by rw [wfR, h a List.mem_cons_self, wfR_mem (fun r hr => h r (List.mem_cons_of_mem _ hr))]; rfl
theorem wf_apRow {z n m : Nat} (h : m + 1 ≤ z) : wfR z (apRow n m) = true := wfR_mem fun r hr => by
 obtain ⟨i, hi, rfl⟩ := List.mem_map.1 hr
 split
 ·have : i + 1 < z := by omega
  simp [wfL, AV.wf, this]
 ·rfl
theorem wf_apIn {z n : Nat} {F : Nat → Nat → Bool} {m : Nat} : ∀ ob, some ob ∈ apIn n F m → wfR z ob.rows = true := fun ob h => by
 obtain ⟨i, hi, e⟩ := List.mem_map.1 h
 rw [rowO] at e; cases e
 exact wf_rwB _ _ _
theorem wkO_apP {n : Nat} {a b : List (Option AObj)} : ∀ {l : List (Option AObj)}, (∀ ob, some ob ∈ l → wfR n ob.rows = true) → WkO n a b → WkO n (l ++ a) (l ++ b)
 | [], _, h => h
 | x :: l, hl, h => ⟨.inr ⟨rfl, fun ob e => hl ob (by rw [e]; simp)⟩, wkO_apP (fun ob hb => hl ob (List.mem_cons_of_mem _ hb)) h⟩
theorem wkO_ap {n m : Nat} {F : Nat → Nat → Bool} {z : Nat} (h : m + 1 ≤ z) : WkO z (apO n m :: apIn n F m) (apO n m :: apIn n F m) := by
 refine ⟨.inr ⟨rfl, fun ob e => by cases e; exact wf_apRow h⟩, ?_⟩
 have := wkO_apP (n := z) (a := []) (b := []) (l := apIn n F m) wf_apIn trivial
 simpa using this
theorem ap_frz (n : Nat) (F : Nat → Nat → Bool) : FrzS (apO n n :: apIn n F n) (.vec 0 n) (.slc 1 (mxB n F) n) := by
 refine FrzS.vecs (ob := ⟨35, 1, true, apRow n n⟩) rfl rfl (apRow_len _ _) (by rw [mxB_len]; exact (apRow_len _ _).symm) fun i row row' h1 h2 => ?_
 have hi : i < n := by have := (List.getElem?_eq_some_iff.1 h1).1; rw [apRow_len] at this; exact this
 have e1 : (apRow n n)[i]? = some [.vec (i + 1) n] := by rw [apRow, List.getElem?_map, List.getElem?_range hi]; simp [hi]
 have e2 : (mxB n F)[i]? = some [.slc 1 (rwB n (F i)) n] := by rw [mxB, List.getElem?_map, List.getElem?_range hi]; rfl
 cases (Option.some.inj (e1.symm.trans h1))
 cases (Option.some.inj (e2.symm.trans h2))
 exact ⟨FrzS.vecP (ob := ⟨4, 1, true, rwB n (F i)⟩) (apIn_get hi) rfl (rwB_len _ _) (wf_rwB _ _ _), trivial⟩
set_option maxRecDepth 100000 in
set_option maxHeartbeats 16000000 in
theorem apart_c {A : ADt} (LO : LOk A) (TT : Lst' A) : Call1 Tryd.prog 7 [.vp (autoV A)] (.slc 1 (mxB A.rows.length (fun i k => decide (i ≠ k))) A.rows.length) := by
 have hmax := LO.max
 have hfew := LO.few
 have CZ := dlen_c A
 have CT := fun s : Int => dtakes_c A LO.ends s
 have CS := fun (s : Int) l => dstep_c A s l
 have CL := dlabels_c A (by omega)
 have tkE : ∀ s : Nat, s < A.rows.length → takesX A s = A.ends.getD s false := fun s hs => by
  rw [takesX, decide_eq_true (by omega), decide_eq_true (by omega)]; rfl
 have stE : ∀ (s : Nat) l, s < A.rows.length → stepX A s l = look (A.rows.getD s []) l := fun s l hs => by
  rw [stepX, if_pos ⟨by omega, by omega⟩, Int.toNat_natCast]
 have hA : wfL 0 [AV.vp (autoV A)] = true := by simp only [wfL, AV.wf, wf_autoV, Bool.and_self]
 have hF : (AV.slc 1 (mxB A.rows.length (fun i k => decide (i ≠ k))) A.rows.length).wf 0 = true := by simp only [AV.wf, wf_mxB]
 generalize hrv : AV.slc 1 (mxB A.rows.length (fun i k => decide (i ≠ k))) A.rows.length = rv at hF ⊢
 simp only [strsA] at CL
 obtain ⟨D, hD, hD0⟩ : ∃ D : Nat → Nat → Bool, (∀ i k, (!(A.ends.getD i false == A.ends.getD k false)) = D i k) ∧ ApO A 0 D := ⟨_, fun _ _ => rfl, ApO.zero⟩
 have hn2 : IntKind.i64.wrap ((A.rows.length : Int) * (A.rows.length : Int)) = ((A.rows.length * A.rows.length : Nat) : Int) := by
  have : A.rows.length * A.rows.length ≤ 32 * 32 := Nat.mul_le_mul hmax hmax
  rw [← Int.natCast_mul, wrap_id (by omega) (by omega)]
 generalize hnn : A.rows.length = n at *
 (refine Call1.enterS Tryd.func7 rfl (by kernel_rfl) (by kernel_rfl) rfl hA hF ?_; simp only [Tryd.ntmps7, Tryd.results7, List.length_cons, List.length_nil, Nat.reduceAdd, Nat.reduceSub, List.replicate_succ, List.replicate_zero, List.cons_append, List.nil_append])
 repeat (first | (with_reducible first | refine Stp.up ?_ | refine fun (K : AK) hK => ?_ | refine wE ?_ | refine wD ?_ | refine wK ?_ | refine wF ?_ | (refine hK _ ?_; clear hK K)) | simp only [go_sem] | with_reducible refine wA ?_ | clear hK K)
 refine ACallV.one CZ ?_
 repeat (first | (with_reducible first | refine Stp.up ?_ | refine fun (K : AK) hK => ?_ | refine wE ?_ | refine wD ?_ | refine wK ?_ | refine wF ?_ | (refine hK _ ?_; clear hK K)) | simp only [go_sem] | with_reducible refine wA ?_ | clear hK K)
 refine ACallV.one CL ?_
 repeat (first | (with_reducible first | refine Stp.up ?_ | refine fun (K : AK) hK => ?_ | refine wE ?_ | refine wD ?_ | refine wK ?_ | refine wF ?_ | (refine hK _ ?_; clear hK K)) | simp only [go_sem, apRow_zero] | with_reducible refine wA ?_ | clear hK K)
 have hz : ∀ (m : Nat) (F : Nat → Nat → Bool), m + 1 ≤ (apO n m :: apIn n F m).length := fun m F => by simp only [apIn_len, List.length_cons]; omega
 have z0 : apIn n D 0 = [] := rfl
 refine awp_loopO (ι := Nat) 17 (fun i => [(6, .v (.int .i64 i)), (7, .undef)]) (fun i => apO n i :: apIn n D i) (fun i => n - i) (fun i => i ≤ n) 0 (Nat.zero_le _) ?_ ?_
 ·(refine wk_mk ?_ (wkO_ap (hz 0 _)) ?_ <;> simp only [frm, List.foldl_cons, List.foldl_nil, List.replicate_succ, List.replicate_zero, WkT, WkO, AV.v.injEq, Value.int.injEq, Value.bool.injEq, Value.string.injEq, AV.vec.injEq, AV.ptr.injEq, true_or, or_true, false_or, or_false, AObj.mk.injEq, forall_eq_apply_imp_iff, forall_eq, forall_eq', go_sem])
  exact ⟨rfl, rfl⟩
 ·intro i hi K hK
  simp only [apO]
  have eW := wrap_succ (k := i) (by omega)
  repeat (first | (with_reducible first | refine Stp.up ?_ | refine fun (K : AK) hK => ?_ | refine wE ?_ | refine wD ?_ | refine wK ?_ | refine wF ?_ | (refine hK _ ?_; clear hK K)) | simp only [go_sem] | with_reducible refine wA ?_ | clear hK K)
  refine AIf.part (fun g => ?_) (fun g => ?_)
  ·have hlt : i < n := by (try simp only [bne_iff_ne, ne_eq, bne_eq_false_iff_eq, beq_iff_eq, beq_eq_false_iff_ne, decide_eq_true_eq, decide_eq_false_iff_not, Bool.not_eq_eq_eq_not, Int.natCast_inj, Int.ofNat_lt, Int.ofNat_le] at g); omega
   have eR := apRow_none hlt
   have eD : List.drop 1 [AV.v (.slice none 0 0)] = [] := rfl
   have eF := rwB_false n
   repeat (first | (with_reducible first | refine Stp.up ?_ | refine fun (K : AK) hK => ?_ | refine wE ?_ | refine wD ?_ | refine wK ?_ | refine wF ?_ | (refine hK _ ?_; clear hK K)) | simp only [go_sem, apRow_len, eR, eD, apRow_set, apIn_len, eF] | with_reducible refine wA ?_ | clear hK K)
   have e1 : ∀ x : Option AObj, apIn n D i ++ [some ⟨4, 1, true, rwB n (fun _ => false)⟩] = apIn n (apG D i 0) (i + 1) := fun _ => apG_zero
   rw [e1 none]
   refine awp_loopO (ι := Nat) 17 (fun k => [(7, .v (.int .i64 k))]) (fun k => apO n (i + 1) :: apIn n (apG D i k) (i + 1)) (fun k => n - k) (fun k => k ≤ n) 0 (Nat.zero_le _) ?_ ?_
   ·(refine wk_mk ?_ (wkO_ap (hz (i + 1) _)) ?_ <;> simp only [frm, List.foldl_cons, List.foldl_nil, List.replicate_succ, List.replicate_zero, WkT, WkO, AV.v.injEq, Value.int.injEq, Value.bool.injEq, Value.string.injEq, AV.vec.injEq, AV.ptr.injEq, true_or, or_true, false_or, or_false, AObj.mk.injEq, forall_eq_apply_imp_iff, forall_eq, forall_eq', go_sem])
    exact ⟨rfl, rfl⟩
   ·intro k hk K hK
    simp only [apO]
    have eW2 := wrap_succ (k := k) (by omega)
    repeat (first | (with_reducible first | refine Stp.up ?_ | refine fun (K : AK) hK => ?_ | refine wE ?_ | refine wD ?_ | refine wK ?_ | refine wF ?_ | (refine hK _ ?_; clear hK K)) | simp only [go_sem] | with_reducible refine wA ?_ | clear hK K)
    refine AIf.part (fun g2 => ?_) (fun g2 => ?_)
    ·have hkt : k < n := by (try simp only [bne_iff_ne, ne_eq, bne_eq_false_iff_eq, beq_iff_eq, beq_eq_false_iff_ne, decide_eq_true_eq, decide_eq_false_iff_not, Bool.not_eq_eq_eq_not, Int.natCast_inj, Int.ofNat_lt, Int.ofNat_le] at g2); omega
     have CTi := CT i
     have CTk := CT k
     rw [tkE i hlt] at CTi
     rw [tkE k hkt] at CTk
     have eA := apRow_at (Nat.lt_succ_self i) hlt
     have eG := fun x => apIn_get (n := n) (F := apG D i k) (x := x) (Nat.lt_succ_self i)
     have eS := fun (x : Option AObj) v => apIn_set (n := n) (F := apG D i k) (m := i + 1) (i := i) (j := k) (v := v) (x := x)
     have eS2 := fun v => (List.cons.inj (eS none v)).2
     have eB := rwB_at (g := apG D i k i) hkt
     have eU := apG_set (n := n) (m := i) (k := k) (F := D)
     simp only [rowO] at eG
     repeat (first | (with_reducible first | refine Stp.up ?_ | refine fun (K : AK) hK => ?_ | refine wE ?_ | refine wD ?_ | refine wK ?_ | refine wF ?_ | (refine hK _ ?_; clear hK K)) | simp only [go_sem, apRow_len, eA, eG] | with_reducible refine wA ?_ | clear hK K)
     refine ACallS.one CTi ?_
     repeat (first | (with_reducible first | refine Stp.up ?_ | refine fun (K : AK) hK => ?_ | refine wE ?_ | refine wD ?_ | refine wK ?_ | refine wF ?_ | (refine hK _ ?_; clear hK K)) | simp only [go_sem, apRow_len, eA, eG] | with_reducible refine wA ?_ | clear hK K)
     refine ACallS.one CTk ?_
     repeat (first | (with_reducible first | refine Stp.up ?_ | refine fun (K : AK) hK => ?_ | refine wE ?_ | refine wD ?_ | refine wK ?_ | refine wF ?_ | (refine hK _ ?_; clear hK K)) | simp only [go_sem, apRow_len, eA, eG, List.drop_succ_cons, List.drop_zero, eB, hD, eS, eS2, eU, rwB_len] | with_reducible refine wA ?_ | clear hK K)
     repeat (first | (with_reducible first | refine Stp.up ?_ | refine fun (K : AK) hK => ?_ | refine wE ?_ | refine wD ?_ | refine wK ?_ | refine wF ?_ | (refine hK _ ?_; clear hK K)) | simp only [go_sem, eW2] | with_reducible refine wA ?_ | clear hK K)
     exact LNext.mk (k + 1) (by omega) (by omega) (by (refine wk_mk ?_ (wkO_ap (hz (i + 1) _)) ?_ <;> simp only [frm, List.foldl_cons, List.foldl_nil, List.replicate_succ, List.replicate_zero, WkT, WkO, AV.v.injEq, Value.int.injEq, Value.bool.injEq, Value.string.injEq, AV.vec.injEq, AV.ptr.injEq, true_or, or_true, false_or, or_false, AObj.mk.injEq, forall_eq_apply_imp_iff, forall_eq, forall_eq', go_sem]); exact decide_eq_true (Nat.succ_pos _))
    ·have hkn : k = n := by (try simp only [bne_iff_ne, ne_eq, bne_eq_false_iff_eq, beq_iff_eq, beq_eq_false_iff_ne, decide_eq_true_eq, decide_eq_false_iff_not, Bool.not_eq_eq_eq_not, Int.natCast_inj, Int.ofNat_lt, Int.ofNat_le] at g2); omega
     have e2 := apG_all (n := n) (m := i) (F := D)
     simp only [hkn, e2]
     repeat (first | (with_reducible first | refine Stp.up ?_ | refine fun (K : AK) hK => ?_ | refine wE ?_ | refine wD ?_ | refine wK ?_ | refine wF ?_ | (refine hK _ ?_; clear hK K)) | simp only [go_sem, eW] | with_reducible refine wA ?_ | clear hK K)
     exact LNext.mk (i + 1) (by omega) (by omega) (by (refine wk_mk ?_ (wkO_ap (hz (i + 1) _)) ?_ <;> simp only [frm, List.foldl_cons, List.foldl_nil, List.replicate_succ, List.replicate_zero, WkT, WkO, AV.v.injEq, Value.int.injEq, Value.bool.injEq, Value.string.injEq, AV.vec.injEq, AV.ptr.injEq, true_or, or_true, false_or, or_false, AObj.mk.injEq, forall_eq_apply_imp_iff, forall_eq, forall_eq', go_sem]); exact decide_eq_true (Nat.succ_pos _))
  ·have hin : i = n := by (try simp only [bne_iff_ne, ne_eq, bne_eq_false_iff_eq, beq_iff_eq, beq_eq_false_iff_ne, decide_eq_true_eq, decide_eq_false_iff_not, Bool.not_eq_eq_eq_not, Int.natCast_inj, Int.ofNat_lt, Int.ofNat_le] at g); omega
   simp only [hin]
   have hz2 : ∀ F, n + 1 ≤ (apO n n :: apIn n F n).length := fun F => hz n F
   repeat (first | (with_reducible first | refine Stp.up ?_ | refine fun (K : AK) hK => ?_ | refine wE ?_ | refine wD ?_ | refine wK ?_ | refine wF ?_ | (refine hK _ ?_; clear hK K)) | simp only [go_sem] | with_reducible refine wA ?_ | clear hK K)
   refine awp_loopO (ι := Nat × (Nat → Nat → Bool)) 17 (fun y => [(8, .v (.int .i64 y.1)), (9, .undef), (10, .undef), (11, .undef), (12, .undef), (13, .undef), (14, .undef), (15, .undef), (16, .undef)]) (fun y => apO n n :: apIn n y.2 n) (fun y => n - y.1) (fun y => ApO A y.1 y.2) (0, D) hD0 ?_ ?_
   ·(refine wk_mk ?_ (wkO_ap (hz2 _)) ?_ <;> simp only [frm, List.foldl_cons, List.foldl_nil, List.replicate_succ, List.replicate_zero, WkT, WkO, AV.v.injEq, Value.int.injEq, Value.bool.injEq, Value.string.injEq, AV.vec.injEq, AV.ptr.injEq, true_or, or_true, false_or, or_false, AObj.mk.injEq, forall_eq_apply_imp_iff, forall_eq, forall_eq', go_sem])
    simp
   ·rintro ⟨r, F0⟩ h0 K hK
    simp only at h0
    have hr1 := h0.le
    rw [hnn] at hr1
    have eW1 := wrap_succ (k := r) (by omega)
    simp only [apO]
    repeat (first | (with_reducible first | refine Stp.up ?_ | refine fun (K : AK) hK => ?_ | refine wE ?_ | refine wD ?_ | refine wK ?_ | refine wF ?_ | (refine hK _ ?_; clear hK K)) | simp only [go_sem] | with_reducible refine wA ?_ | clear hK K)
    refine AIf.part (fun g3 => ?_) (fun g3 => ?_)
    ·have hrn : r < n := by (try simp only [bne_iff_ne, ne_eq, bne_eq_false_iff_eq, beq_iff_eq, beq_eq_false_iff_ne, decide_eq_true_eq, decide_eq_false_iff_not, Bool.not_eq_eq_eq_not, Int.natCast_inj, Int.ofNat_lt, Int.ofNat_le] at g3); omega
     have hn0 : 0 < n := by omega
     repeat (first | (with_reducible first | refine Stp.up ?_ | refine fun (K : AK) hK => ?_ | refine wE ?_ | refine wD ?_ | refine wK ?_ | refine wF ?_ | (refine hK _ ?_; clear hK K)) | simp only [go_sem] | with_reducible refine wA ?_ | clear hK K)
     refine awp_loopO (ι := Nat × (Nat → Nat → Bool)) 17 (fun y => [(9, .v (.int .i64 y.1)), (10, .undef), (11, .undef), (12, .undef), (13, .undef), (14, .undef), (15, .undef), (16, .undef)]) (fun y => apO n n :: apIn n y.2 n) (fun y => n * n - y.1) (fun y => ApM A r F0 y.1 y.2) (0, F0) h0.start ?_ ?_
     ·(refine wk_mk ?_ (wkO_ap (hz2 _)) ?_ <;> simp only [frm, List.foldl_cons, List.foldl_nil, List.replicate_succ, List.replicate_zero, WkT, WkO, AV.v.injEq, Value.int.injEq, Value.bool.injEq, Value.string.injEq, AV.vec.injEq, AV.ptr.injEq, true_or, or_true, false_or, or_false, AObj.mk.injEq, forall_eq_apply_imp_iff, forall_eq, forall_eq', go_sem])
      simp
     ·rintro ⟨c, F⟩ h1 K hK
      simp only at h1
      have hc1 := h1.le
      rw [hnn] at hc1
      have hnb : n * n ≤ 32 * 32 := Nat.mul_le_mul hmax hmax
      have eW2 := wrap_succ (k := c) (by omega)
      simp only [apO]
      repeat (first | (with_reducible first | refine Stp.up ?_ | refine fun (K : AK) hK => ?_ | refine wE ?_ | refine wD ?_ | refine wK ?_ | refine wF ?_ | (refine hK _ ?_; clear hK K)) | simp only [go_sem, hn2] | with_reducible refine wA ?_ | clear hK K)
      refine AIf.part (fun g4 => ?_) (fun g4 => ?_)
      ·have hcn : c < n * n := by (try simp only [bne_iff_ne, ne_eq, bne_eq_false_iff_eq, beq_iff_eq, beq_eq_false_iff_ne, decide_eq_true_eq, decide_eq_false_iff_not, Bool.not_eq_eq_eq_not, Int.natCast_inj, Int.ofNat_lt, Int.ofNat_le] at g4); omega
       have hp : c / n < n := Nat.div_lt_of_lt_mul hcn
       have hq : c % n < n := Nat.mod_lt _ hn0
       have hpq : c / n * n + c % n = c := by rw [Nat.mul_comm]; exact Nat.div_add_mod c n
       have hw : ∀ m : Nat, m < n → IntKind.i64.wrap (m : Int) = (m : Int) := fun m hm => wrap_id (by omega) (by omega)
       have eQ : IntKind.i64.wrap ((c : Int).tdiv (n : Int)) = ((c / n : Nat) : Int) := by
        rw [← Int.ofNat_tdiv]; exact hw _ hp
       have eM : ((c : Int).tmod (n : Int)) = ((c % n : Nat) : Int) := (Int.ofNat_tmod c n).symm
       have h2 : ApI A r F0 (c / n) (c % n) 0 F := ApM.own (by rw [hnn, hpq]; exact h1)
       generalize hpp : c / n = p at *
       generalize hqq : c % n = q at *
       repeat (first | (with_reducible first | refine Stp.up ?_ | refine fun (K : AK) hK => ?_ | refine wE ?_ | refine wD ?_ | refine wK ?_ | refine wF ?_ | (refine hK _ ?_; clear hK K)) | simp only [go_sem, eQ, eM] | with_reducible refine wA ?_ | clear hK K)
       refine awp_loopO (ι := Nat × (Nat → Nat → Bool)) 17 (fun y => [(12, .v (.int .i64 y.1)), (13, .undef), (14, .undef), (15, .undef), (16, .undef)]) (fun y => apO n n :: apIn n y.2 n) (fun y => A.labs.length - y.1) (fun y => ApI A r F0 p q y.1 y.2) (0, F) h2 ?_ ?_
       ·(refine wk_mk ?_ (wkO_ap (hz2 _)) ?_ <;> simp only [frm, List.foldl_cons, List.foldl_nil, List.replicate_succ, List.replicate_zero, WkT, WkO, AV.v.injEq, Value.int.injEq, Value.bool.injEq, Value.string.injEq, AV.vec.injEq, AV.ptr.injEq, true_or, or_true, false_or, or_false, AObj.mk.injEq, forall_eq_apply_imp_iff, forall_eq, forall_eq', go_sem])
        simp
       ·rintro ⟨j, F⟩ h3 K hK
        simp only at h3
        have hj1 := h3.lej
        have eW3 := wrap_succ (k := j) (by omega)
        simp only [apO]
        repeat (first | (with_reducible first | refine Stp.up ?_ | refine fun (K : AK) hK => ?_ | refine wE ?_ | refine wD ?_ | refine wK ?_ | refine wF ?_ | (refine hK _ ?_; clear hK K)) | simp only [go_sem] | with_reducible refine wA ?_ | clear hK K)
        refine AIf.part (fun g5 => ?_) (fun g5 => ?_)
        ·have hj : j < A.labs.length := by (try simp only [bne_iff_ne, ne_eq, bne_eq_false_iff_eq, beq_iff_eq, beq_eq_false_iff_ne, decide_eq_true_eq, decide_eq_false_iff_not, Bool.not_eq_eq_eq_not, Int.natCast_inj, Int.ofNat_lt, Int.ofNat_le] at g5); omega
         have h4 := h3.step LO.toAOk (by rw [hnn]; exact hp) hj
         have eG := getD_map encS A.labs j [] hj
         have eLj : A.labs.getD j ⟨#[]⟩ = A.labs[j] := by rw [List.getD_eq_getElem?_getD, List.getElem?_eq_getElem hj]; rfl
         rw [eLj] at h4
         have C1 := CS p A.labs[j]
         have C2 := CS q A.labs[j]
         rw [stE p _ hp] at C1
         rw [stE q _ hq] at C2
         simp only [encS] at eG
         have eA := apRow_at hp hp
         have eB := rwB_at (g := F p) hq
         have eF := fun x => apIn_get (n := n) (F := F) (x := x) hp
         have eS := fun (x : Option AObj) v => apIn_set (n := n) (F := F) (m := n) (i := p) (j := q) (v := v) (x := x)
         have eS2 := fun v => (List.cons.inj (eS none v)).2
         simp only [rowO] at eF
         unfold apV at h4
         cases hl1 : look (A.rows.getD p []) A.labs[j] <;> cases hl2 : look (A.rows.getD q []) A.labs[j] <;> rw [hl1] at C1 h4 <;> rw [hl2] at C2 h4 <;> simp only [stepT, Option.getD_none, Option.getD_some, Option.isSome_none, Option.isSome_some] at C1 C2 h4 <;> cases hb : F p q <;> rw [hb] at eB h4 <;> simp only [Bool.false_or, Bool.true_or] at h4
         ·skip
          repeat (first | (with_reducible first | refine Stp.up ?_ | refine fun (K : AK) hK => ?_ | refine wE ?_ | refine wD ?_ | refine wK ?_ | refine wF ?_ | (refine hK _ ?_; clear hK K)) | simp only [go_sem, eG, g5] | with_reducible refine wA ?_ | clear hK K)
          refine ACallV.one C1 ?_
          repeat (first | (with_reducible first | refine Stp.up ?_ | refine fun (K : AK) hK => ?_ | refine wE ?_ | refine wD ?_ | refine wK ?_ | refine wF ?_ | (refine hK _ ?_; clear hK K)) | simp only [go_sem, eG, g5] | with_reducible refine wA ?_ | clear hK K)
          refine ACallV.one C2 ?_
          repeat (first | (with_reducible first | refine Stp.up ?_ | refine fun (K : AK) hK => ?_ | refine wE ?_ | refine wD ?_ | refine wK ?_ | refine wF ?_ | (refine hK _ ?_; clear hK K)) | simp only [go_sem, apRow_len, eA, eB, eF, List.drop_succ_cons, List.drop_zero, eS, eS2, rwB_len, Go.undef] | with_reducible refine wA ?_ | clear hK K)
          repeat (first | (with_reducible first | refine Stp.up ?_ | refine fun (K : AK) hK => ?_ | refine wE ?_ | refine wD ?_ | refine wK ?_ | refine wF ?_ | (refine hK _ ?_; clear hK K)) | simp only [go_sem, eW3] | with_reducible refine wA ?_ | clear hK K)
          refine LNext.mk (j + 1, upd2 F p q false) h4 (by show A.labs.length - (j + 1) < A.labs.length - j; omega) (by (refine wk_mk ?_ (wkO_ap (hz2 _)) ?_ <;> simp only [frm, List.foldl_cons, List.foldl_nil, List.replicate_succ, List.replicate_zero, WkT, WkO, AV.v.injEq, Value.int.injEq, Value.bool.injEq, Value.string.injEq, AV.vec.injEq, AV.ptr.injEq, true_or, or_true, false_or, or_false, AObj.mk.injEq, forall_eq_apply_imp_iff, forall_eq, forall_eq', go_sem]); simp)
         ·skip
          repeat (first | (with_reducible first | refine Stp.up ?_ | refine fun (K : AK) hK => ?_ | refine wE ?_ | refine wD ?_ | refine wK ?_ | refine wF ?_ | (refine hK _ ?_; clear hK K)) | simp only [go_sem, eG, g5] | with_reducible refine wA ?_ | clear hK K)
          refine ACallV.one C1 ?_
          repeat (first | (with_reducible first | refine Stp.up ?_ | refine fun (K : AK) hK => ?_ | refine wE ?_ | refine wD ?_ | refine wK ?_ | refine wF ?_ | (refine hK _ ?_; clear hK K)) | simp only [go_sem, eG, g5] | with_reducible refine wA ?_ | clear hK K)
          refine ACallV.one C2 ?_
          repeat (first | (with_reducible first | refine Stp.up ?_ | refine fun (K : AK) hK => ?_ | refine wE ?_ | refine wD ?_ | refine wK ?_ | refine wF ?_ | (refine hK _ ?_; clear hK K)) | simp only [go_sem, apRow_len, eA, eB, eF, List.drop_succ_cons, List.drop_zero, eS, eS2, rwB_len, Go.undef] | with_reducible refine wA ?_ | clear hK K)
          repeat (first | (with_reducible first | refine Stp.up ?_ | refine fun (K : AK) hK => ?_ | refine wE ?_ | refine wD ?_ | refine wK ?_ | refine wF ?_ | (refine hK _ ?_; clear hK K)) | simp only [go_sem, eW3] | with_reducible refine wA ?_ | clear hK K)
          refine LNext.mk (j + 1, upd2 F p q true) h4 (by show A.labs.length - (j + 1) < A.labs.length - j; omega) (by (refine wk_mk ?_ (wkO_ap (hz2 _)) ?_ <;> simp only [frm, List.foldl_cons, List.foldl_nil, List.replicate_succ, List.replicate_zero, WkT, WkO, AV.v.injEq, Value.int.injEq, Value.bool.injEq, Value.string.injEq, AV.vec.injEq, AV.ptr.injEq, true_or, or_true, false_or, or_false, AObj.mk.injEq, forall_eq_apply_imp_iff, forall_eq, forall_eq', go_sem]); simp)
         ·skip
          repeat (first | (with_reducible first | refine Stp.up ?_ | refine fun (K : AK) hK => ?_ | refine wE ?_ | refine wD ?_ | refine wK ?_ | refine wF ?_ | (refine hK _ ?_; clear hK K)) | simp only [go_sem, eG, g5] | with_reducible refine wA ?_ | clear hK K)
          refine ACallV.one C1 ?_
          repeat (first | (with_reducible first | refine Stp.up ?_ | refine fun (K : AK) hK => ?_ | refine wE ?_ | refine wD ?_ | refine wK ?_ | refine wF ?_ | (refine hK _ ?_; clear hK K)) | simp only [go_sem, eG, g5] | with_reducible refine wA ?_ | clear hK K)
          refine ACallV.one C2 ?_
          repeat (first | (with_reducible first | refine Stp.up ?_ | refine fun (K : AK) hK => ?_ | refine wE ?_ | refine wD ?_ | refine wK ?_ | refine wF ?_ | (refine hK _ ?_; clear hK K)) | simp only [go_sem, apRow_len, eA, eB, eF, List.drop_succ_cons, List.drop_zero, eS, eS2, rwB_len, Go.undef] | with_reducible refine wA ?_ | clear hK K)
          repeat (first | (with_reducible first | refine Stp.up ?_ | refine fun (K : AK) hK => ?_ | refine wE ?_ | refine wD ?_ | refine wK ?_ | refine wF ?_ | (refine hK _ ?_; clear hK K)) | simp only [go_sem, eW3] | with_reducible refine wA ?_ | clear hK K)
          refine LNext.mk (j + 1, upd2 F p q true) h4 (by show A.labs.length - (j + 1) < A.labs.length - j; omega) (by (refine wk_mk ?_ (wkO_ap (hz2 _)) ?_ <;> simp only [frm, List.foldl_cons, List.foldl_nil, List.replicate_succ, List.replicate_zero, WkT, WkO, AV.v.injEq, Value.int.injEq, Value.bool.injEq, Value.string.injEq, AV.vec.injEq, AV.ptr.injEq, true_or, or_true, false_or, or_false, AObj.mk.injEq, forall_eq_apply_imp_iff, forall_eq, forall_eq', go_sem]); simp)
         ·skip
          repeat (first | (with_reducible first | refine Stp.up ?_ | refine fun (K : AK) hK => ?_ | refine wE ?_ | refine wD ?_ | refine wK ?_ | refine wF ?_ | (refine hK _ ?_; clear hK K)) | simp only [go_sem, eG, g5] | with_reducible refine wA ?_ | clear hK K)
          refine ACallV.one C1 ?_
          repeat (first | (with_reducible first | refine Stp.up ?_ | refine fun (K : AK) hK => ?_ | refine wE ?_ | refine wD ?_ | refine wK ?_ | refine wF ?_ | (refine hK _ ?_; clear hK K)) | simp only [go_sem, eG, g5] | with_reducible refine wA ?_ | clear hK K)
          refine ACallV.one C2 ?_
          repeat (first | (with_reducible first | refine Stp.up ?_ | refine fun (K : AK) hK => ?_ | refine wE ?_ | refine wD ?_ | refine wK ?_ | refine wF ?_ | (refine hK _ ?_; clear hK K)) | simp only [go_sem, apRow_len, eA, eB, eF, List.drop_succ_cons, List.drop_zero, eS, eS2, rwB_len, Go.undef] | with_reducible refine wA ?_ | clear hK K)
          repeat (first | (with_reducible first | refine Stp.up ?_ | refine fun (K : AK) hK => ?_ | refine wE ?_ | refine wD ?_ | refine wK ?_ | refine wF ?_ | (refine hK _ ?_; clear hK K)) | simp only [go_sem, eW3] | with_reducible refine wA ?_ | clear hK K)
          refine LNext.mk (j + 1, upd2 F p q true) h4 (by show A.labs.length - (j + 1) < A.labs.length - j; omega) (by (refine wk_mk ?_ (wkO_ap (hz2 _)) ?_ <;> simp only [frm, List.foldl_cons, List.foldl_nil, List.replicate_succ, List.replicate_zero, WkT, WkO, AV.v.injEq, Value.int.injEq, Value.bool.injEq, Value.string.injEq, AV.vec.injEq, AV.ptr.injEq, true_or, or_true, false_or, or_false, AObj.mk.injEq, forall_eq_apply_imp_iff, forall_eq, forall_eq', go_sem]); simp)
         ·skip
          repeat (first | (with_reducible first | refine Stp.up ?_ | refine fun (K : AK) hK => ?_ | refine wE ?_ | refine wD ?_ | refine wK ?_ | refine wF ?_ | (refine hK _ ?_; clear hK K)) | simp only [go_sem, eG, g5] | with_reducible refine wA ?_ | clear hK K)
          refine ACallV.one C1 ?_
          repeat (first | (with_reducible first | refine Stp.up ?_ | refine fun (K : AK) hK => ?_ | refine wE ?_ | refine wD ?_ | refine wK ?_ | refine wF ?_ | (refine hK _ ?_; clear hK K)) | simp only [go_sem, eG, g5] | with_reducible refine wA ?_ | clear hK K)
          refine ACallV.one C2 ?_
          repeat (first | (with_reducible first | refine Stp.up ?_ | refine fun (K : AK) hK => ?_ | refine wE ?_ | refine wD ?_ | refine wK ?_ | refine wF ?_ | (refine hK _ ?_; clear hK K)) | simp only [go_sem, apRow_len, eA, eB, eF, List.drop_succ_cons, List.drop_zero, eS, eS2, rwB_len, Go.undef] | with_reducible refine wA ?_ | clear hK K)
          repeat (first | (with_reducible first | refine Stp.up ?_ | refine fun (K : AK) hK => ?_ | refine wE ?_ | refine wD ?_ | refine wK ?_ | refine wF ?_ | (refine hK _ ?_; clear hK K)) | simp only [go_sem, eW3] | with_reducible refine wA ?_ | clear hK K)
          refine LNext.mk (j + 1, upd2 F p q true) h4 (by show A.labs.length - (j + 1) < A.labs.length - j; omega) (by (refine wk_mk ?_ (wkO_ap (hz2 _)) ?_ <;> simp only [frm, List.foldl_cons, List.foldl_nil, List.replicate_succ, List.replicate_zero, WkT, WkO, AV.v.injEq, Value.int.injEq, Value.bool.injEq, Value.string.injEq, AV.vec.injEq, AV.ptr.injEq, true_or, or_true, false_or, or_false, AObj.mk.injEq, forall_eq_apply_imp_iff, forall_eq, forall_eq', go_sem]); simp)
         ·skip
          repeat (first | (with_reducible first | refine Stp.up ?_ | refine fun (K : AK) hK => ?_ | refine wE ?_ | refine wD ?_ | refine wK ?_ | refine wF ?_ | (refine hK _ ?_; clear hK K)) | simp only [go_sem, eG, g5] | with_reducible refine wA ?_ | clear hK K)
          refine ACallV.one C1 ?_
          repeat (first | (with_reducible first | refine Stp.up ?_ | refine fun (K : AK) hK => ?_ | refine wE ?_ | refine wD ?_ | refine wK ?_ | refine wF ?_ | (refine hK _ ?_; clear hK K)) | simp only [go_sem, eG, g5] | with_reducible refine wA ?_ | clear hK K)
          refine ACallV.one C2 ?_
          repeat (first | (with_reducible first | refine Stp.up ?_ | refine fun (K : AK) hK => ?_ | refine wE ?_ | refine wD ?_ | refine wK ?_ | refine wF ?_ | (refine hK _ ?_; clear hK K)) | simp only [go_sem, apRow_len, eA, eB, eF, List.drop_succ_cons, List.drop_zero, eS, eS2, rwB_len, Go.undef] | with_reducible refine wA ?_ | clear hK K)
          repeat (first | (with_reducible first | refine Stp.up ?_ | refine fun (K : AK) hK => ?_ | refine wE ?_ | refine wD ?_ | refine wK ?_ | refine wF ?_ | (refine hK _ ?_; clear hK K)) | simp only [go_sem, eW3] | with_reducible refine wA ?_ | clear hK K)
          refine LNext.mk (j + 1, upd2 F p q true) h4 (by show A.labs.length - (j + 1) < A.labs.length - j; omega) (by (refine wk_mk ?_ (wkO_ap (hz2 _)) ?_ <;> simp only [frm, List.foldl_cons, List.foldl_nil, List.replicate_succ, List.replicate_zero, WkT, WkO, AV.v.injEq, Value.int.injEq, Value.bool.injEq, Value.string.injEq, AV.vec.injEq, AV.ptr.injEq, true_or, or_true, false_or, or_false, AObj.mk.injEq, forall_eq_apply_imp_iff, forall_eq, forall_eq', go_sem]); simp)
         ·skip
          rename_i x y
          have hx : x < n := by rw [← hnn]; exact (LO.row _ (getD_mem (d := []) (by rw [hnn]; exact hp))).2 _ (look_mem hl1)
          have hy : y < n := by rw [← hnn]; exact (LO.row _ (getD_mem (d := []) (by rw [hnn]; exact hq))).2 _ (look_mem hl2)
          have d1 : decide ((x : Int) < (n : Int)) = true := decide_eq_true (by omega)
          have d2 : decide ((y : Int) < (n : Int)) = true := decide_eq_true (by omega)
          have d3 : decide ((0 : Int) ≤ (x : Int)) = true := decide_eq_true (by omega)
          have d4 : decide ((0 : Int) ≤ (y : Int)) = true := decide_eq_true (by omega)
          have eX := apRow_at hx hx
          have eY := rwB_at (g := F x) hy
          have eZ := fun z => apIn_get (n := n) (F := F) (x := z) hx
          simp only [rowO] at eZ
          repeat (first | (with_reducible first | refine Stp.up ?_ | refine fun (K : AK) hK => ?_ | refine wE ?_ | refine wD ?_ | refine wK ?_ | refine wF ?_ | (refine hK _ ?_; clear hK K)) | simp only [go_sem, eG, g5] | with_reducible refine wA ?_ | clear hK K)
          refine ACallV.one C1 ?_
          repeat (first | (with_reducible first | refine Stp.up ?_ | refine fun (K : AK) hK => ?_ | refine wE ?_ | refine wD ?_ | refine wK ?_ | refine wF ?_ | (refine hK _ ?_; clear hK K)) | simp only [go_sem, eG, g5] | with_reducible refine wA ?_ | clear hK K)
          refine ACallV.one C2 ?_
          repeat (first | (with_reducible first | refine Stp.up ?_ | refine fun (K : AK) hK => ?_ | refine wE ?_ | refine wD ?_ | refine wK ?_ | refine wF ?_ | (refine hK _ ?_; clear hK K)) | simp only [go_sem, d1, d2, d3, d4, eX, eY, eZ, apRow_len, eA, eB, eF, List.drop_succ_cons, List.drop_zero, eS, eS2, rwB_len, Go.undef] | with_reducible refine wA ?_ | clear hK K)
          repeat (first | (with_reducible first | refine Stp.up ?_ | refine fun (K : AK) hK => ?_ | refine wE ?_ | refine wD ?_ | refine wK ?_ | refine wF ?_ | (refine hK _ ?_; clear hK K)) | simp only [go_sem, eW3] | with_reducible refine wA ?_ | clear hK K)
          refine LNext.mk (j + 1, upd2 F p q (F x y)) h4 (by show A.labs.length - (j + 1) < A.labs.length - j; omega) (by (refine wk_mk ?_ (wkO_ap (hz2 _)) ?_ <;> simp only [frm, List.foldl_cons, List.foldl_nil, List.replicate_succ, List.replicate_zero, WkT, WkO, AV.v.injEq, Value.int.injEq, Value.bool.injEq, Value.string.injEq, AV.vec.injEq, AV.ptr.injEq, true_or, or_true, false_or, or_false, AObj.mk.injEq, forall_eq_apply_imp_iff, forall_eq, forall_eq', go_sem]); simp)
         ·skip
          rename_i x y
          have hx : x < n := by rw [← hnn]; exact (LO.row _ (getD_mem (d := []) (by rw [hnn]; exact hp))).2 _ (look_mem hl1)
          have hy : y < n := by rw [← hnn]; exact (LO.row _ (getD_mem (d := []) (by rw [hnn]; exact hq))).2 _ (look_mem hl2)
          have d1 : decide ((x : Int) < (n : Int)) = true := decide_eq_true (by omega)
          have d2 : decide ((y : Int) < (n : Int)) = true := decide_eq_true (by omega)
          have d3 : decide ((0 : Int) ≤ (x : Int)) = true := decide_eq_true (by omega)
          have d4 : decide ((0 : Int) ≤ (y : Int)) = true := decide_eq_true (by omega)
          have eX := apRow_at hx hx
          have eY := rwB_at (g := F x) hy
          have eZ := fun z => apIn_get (n := n) (F := F) (x := z) hx
          simp only [rowO] at eZ
          repeat (first | (with_reducible first | refine Stp.up ?_ | refine fun (K : AK) hK => ?_ | refine wE ?_ | refine wD ?_ | refine wK ?_ | refine wF ?_ | (refine hK _ ?_; clear hK K)) | simp only [go_sem, eG, g5] | with_reducible refine wA ?_ | clear hK K)
          refine ACallV.one C1 ?_
          repeat (first | (with_reducible first | refine Stp.up ?_ | refine fun (K : AK) hK => ?_ | refine wE ?_ | refine wD ?_ | refine wK ?_ | refine wF ?_ | (refine hK _ ?_; clear hK K)) | simp only [go_sem, eG, g5] | with_reducible refine wA ?_ | clear hK K)
          refine ACallV.one C2 ?_
          repeat (first | (with_reducible first | refine Stp.up ?_ | refine fun (K : AK) hK => ?_ | refine wE ?_ | refine wD ?_ | refine wK ?_ | refine wF ?_ | (refine hK _ ?_; clear hK K)) | simp only [go_sem, d1, d2, d3, d4, eX, eY, eZ, apRow_len, eA, eB, eF, List.drop_succ_cons, List.drop_zero, eS, eS2, rwB_len, Go.undef] | with_reducible refine wA ?_ | clear hK K)
          repeat (first | (with_reducible first | refine Stp.up ?_ | refine fun (K : AK) hK => ?_ | refine wE ?_ | refine wD ?_ | refine wK ?_ | refine wF ?_ | (refine hK _ ?_; clear hK K)) | simp only [go_sem, eW3] | with_reducible refine wA ?_ | clear hK K)
          refine LNext.mk (j + 1, upd2 F p q true) h4 (by show A.labs.length - (j + 1) < A.labs.length - j; omega) (by (refine wk_mk ?_ (wkO_ap (hz2 _)) ?_ <;> simp only [frm, List.foldl_cons, List.foldl_nil, List.replicate_succ, List.replicate_zero, WkT, WkO, AV.v.injEq, Value.int.injEq, Value.bool.injEq, Value.string.injEq, AV.vec.injEq, AV.ptr.injEq, true_or, or_true, false_or, or_false, AObj.mk.injEq, forall_eq_apply_imp_iff, forall_eq, forall_eq', go_sem]); simp)
        ·have hjn : j = A.labs.length := by (try simp only [bne_iff_ne, ne_eq, bne_eq_false_iff_eq, beq_iff_eq, beq_eq_false_iff_ne, decide_eq_true_eq, decide_eq_false_iff_not, Bool.not_eq_eq_eq_not, Int.natCast_inj, Int.ofNat_lt, Int.ofNat_le] at g5); omega
         have h5 := ApI.fin TT h0 (by rw [hnn]; exact hrn) (hjn ▸ h3) (by rw [hnn]; exact hp) (by rw [hnn]; exact hq)
         rw [hnn, hpq] at h5
         repeat (first | (with_reducible first | refine Stp.up ?_ | refine fun (K : AK) hK => ?_ | refine wE ?_ | refine wD ?_ | refine wK ?_ | refine wF ?_ | (refine hK _ ?_; clear hK K)) | simp only [go_sem, eW2] | with_reducible refine wA ?_ | clear hK K)
         refine LNext.mk (c + 1, F) h5 (by show n * n - (c + 1) < n * n - c; omega) (by (refine wk_mk ?_ (wkO_ap (hz2 _)) ?_ <;> simp only [frm, List.foldl_cons, List.foldl_nil, List.replicate_succ, List.replicate_zero, WkT, WkO, AV.v.injEq, Value.int.injEq, Value.bool.injEq, Value.string.injEq, AV.vec.injEq, AV.ptr.injEq, true_or, or_true, false_or, or_false, AObj.mk.injEq, forall_eq_apply_imp_iff, forall_eq, forall_eq', go_sem]); simp)
      ·have hcn : c = n * n := by (try simp only [bne_iff_ne, ne_eq, bne_eq_false_iff_eq, beq_iff_eq, beq_eq_false_iff_ne, decide_eq_true_eq, decide_eq_false_iff_not, Bool.not_eq_eq_eq_not, Int.natCast_inj, Int.ofNat_lt, Int.ofNat_le] at g4); omega
       have h5 := ApM.fin (F0 := F0) (F := F) (by rw [hnn]; exact hrn) (by rw [hnn, ← hcn]; exact h1)
       repeat (first | (with_reducible first | refine Stp.up ?_ | refine fun (K : AK) hK => ?_ | refine wE ?_ | refine wD ?_ | refine wK ?_ | refine wF ?_ | (refine hK _ ?_; clear hK K)) | simp only [go_sem, eW1] | with_reducible refine wA ?_ | clear hK K)
       refine LNext.mk (r + 1, F) h5 (by show n - (r + 1) < n - r; omega) (by (refine wk_mk ?_ (wkO_ap (hz2 _)) ?_ <;> simp only [frm, List.foldl_cons, List.foldl_nil, List.replicate_succ, List.replicate_zero, WkT, WkO, AV.v.injEq, Value.int.injEq, Value.bool.injEq, Value.string.injEq, AV.vec.injEq, AV.ptr.injEq, true_or, or_true, false_or, or_false, AObj.mk.injEq, forall_eq_apply_imp_iff, forall_eq, forall_eq', go_sem]); simp)
    ·have hrn : r = n := by (try simp only [bne_iff_ne, ne_eq, bne_eq_false_iff_eq, beq_iff_eq, beq_eq_false_iff_ne, decide_eq_true_eq, decide_eq_false_iff_not, Bool.not_eq_eq_eq_not, Int.natCast_inj, Int.ofNat_lt, Int.ofNat_le] at g3); omega
     have hall : mxB n (fun i k => decide (i ≠ k)) = mxB n F0 := mxB_eq fun i k hi hk => ((ApO.all TT (hnn.symm ▸ hrn ▸ h0) (by rw [hnn]; exact hi) (by rw [hnn]; exact hk))).symm
     have hfz := ap_frz n F0
     rw [← hall, hrv] at hfz
     repeat (first | (with_reducible first | refine Stp.up ?_ | refine fun (K : AK) hK => ?_ | refine wE ?_ | refine wD ?_ | refine wK ?_ | refine wF ?_ | (refine hK _ ?_; clear hK K)) | simp only [go_sem] | with_reducible refine wA ?_ | clear hK K)
     exact hfz
end Go.Proofs.YtfflpdekojlnmaaDoor
