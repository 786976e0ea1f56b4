/- kinescoperef08.Nfa: Step. -/
import Derived.Test.YtmdkgajjekbanaaDoorEMeth08
set_option linter.unusedSimpArgs false
set_option linter.unusedVariables false
namespace Go.Proofs.YtmdkgajjekbanaaDoor
open Go.RowKit

noncomputable def frmB (x : Ex) (p : Int) (q : Nat) : Bool := if p = 0 then fstB x 0 q else if 0 < p ∧ p ≤ (labE x).length then folB x 0 (p.toNat - 1) q else false
noncomputable def frB (x : Ex) (l : List Int) (q : Nat) : Bool := l.any (fun p => frmB x p q)
theorem frB_snoc {x : Ex} {l : List Int} {i : Nat} (h : i < l.length) : frB x (l.take (i + 1)) = fun q => frB x (l.take i) q || frmB x l[i] q := by
 funext q
 rw [frB, List.take_succ_eq_append_getElem h, List.any_append, frB]; simp
def kpB (g : Nat → Bool) (l : List ByteArray) (lab : ByteArray) (j q : Nat) : Bool := if q < j then g q && ((l.getD q ⟨#[]⟩).toList == lab.toList) else g q
theorem kpB_0 (g : Nat → Bool) (l : List ByteArray) (lab : ByteArray) : kpB g l lab 0 = g := by funext q; simp [kpB]
theorem kpB_at (g : Nat → Bool) (l : List ByteArray) (lab : ByteArray) (j : Nat) : kpB g l lab j j = g j := by simp [kpB]
theorem kpB_succ (g : Nat → Bool) (l : List ByteArray) (lab : ByteArray) (j : Nat) : (fun q => if q = j then (g j && ((l.getD j ⟨#[]⟩).toList == lab.toList)) else kpB g l lab j q) = kpB g l lab (j + 1) := by
 funext q
 rw [kpB, kpB]
 by_cases h : q = j
 ·subst h; simp
 ·rw [if_neg h]
  by_cases h2 : q < j
  ·rw [if_pos h2, if_pos (by omega)]
  ·rw [if_neg h2, if_neg (by omega)]
noncomputable def stB (x : Ex) (l : List Int) (lab : ByteArray) (q : Nat) : Bool := frB x l q && (((labE x).getD q ⟨#[]⟩).toList == lab.toList)
def nons (c : Nat) : List (Option AObj) := List.replicate c none
theorem nons_len (c : Nat) : (nons c).length = c := by simp [nons]
theorem nons_succ (c : Nat) (tl : List (Option AObj)) : nons (c + 1) ++ tl = nons c ++ (none :: tl) := by
 rw [nons, List.replicate_succ', List.append_assoc]; rfl
theorem wkO_nons {n : Nat} {a b : List (Option AObj)} : ∀ (c : Nat), WkO n a b → WkO n (nons c ++ a) (nons c ++ b)
 | 0, h => h
 | c + 1, h => ⟨.inl rfl, wkO_nons c h⟩
theorem ACallV.either {c N : Nat} {a b : Nat → Bool} {K : AV → List (Option AObj) → Prop} (hn : N ≤ 1000) (k : K (.vec (c + 1) N) (nons c ++ [some ⟨4, 1, true, rwB N a⟩, some ⟨4, 1, true, rwB N (fun q => a q || b q)⟩])) :
  ACallV Tryd.prog 55 [.vec c N, .slc 1 (rwB N b) N] (nons c ++ [some ⟨4, 1, true, rwB N a⟩]) K := by
 have hl : (nons c ++ [some (⟨4, 1, true, rwB N a⟩ : AObj)]).length = c + 1 := by rw [List.length_append, nons_len]; rfl
 refine ACallV.fr [c] (either08_e N a b hn) (by simp) ?_ ?_ (by simp only [wfL, AV.wf, wf_rwB, Bool.and_self]; rfl) ?_ ?_
 ·simp only [List.map_cons, List.map_nil, appG0 (nons_len c), Option.map_some, AObj.ren, ren_rwB]; rfl
 ·simp only [renL, AV.ren, ren_rwB]; rfl
 ·intro k ob hk
  match k, hk with
  | 0, hk => cases hk; exact wf_rwB _ _ _
  | k + 1, hk => simp at hk
 ·rw [hl]
  have e1 : (AV.vec 1 N).ren (sig [c] (c + 1)) = .vec (c + 1) N := by simp [AV.ren, sig]
  rw [e1]
  simp only [putO, Option.map_some, Option.map_none, AObj.ren, ren_rwB, List.map_cons, List.map_nil, appS0 (nons_len c), List.set_cons_zero, List.append_assoc, List.cons_append, List.nil_append]
  exact k
theorem ACallE.either {c N : Nat} {a b : Nat → Bool} {K : AV → List (Option AObj) → Prop} (hn : N ≤ 1000) (k : K (.vec (c + 1) N) (nons c ++ [some ⟨4, 1, true, rwB N a⟩, some ⟨4, 1, true, rwB N (fun q => a q || b q)⟩])) :
  ACallE Tryd.prog 55 [.vec c N, .slc 1 (rwB N b) N] (nons c ++ [some ⟨4, 1, true, rwB N a⟩]) K := by
 have hl : (nons c ++ [some (⟨4, 1, true, rwB N a⟩ : AObj)]).length = c + 1 := by rw [List.length_append, nons_len]; rfl
 refine ACallE.fr [c] (either08_e N a b hn) (by simp) ?_ ?_ (by simp only [wfL, AV.wf, wf_rwB, Bool.and_self]; rfl) ?_ ?_
 ·simp only [List.map_cons, List.map_nil, appG0 (nons_len c), Option.map_some, AObj.ren, ren_rwB]; rfl
 ·simp only [renL, AV.ren, ren_rwB]; rfl
 ·intro k ob hk
  match k, hk with
  | 0, hk => cases hk; exact wf_rwB _ _ _
  | k + 1, hk => simp at hk
 ·rw [hl]
  have e1 : (AV.vec 1 N).ren (sig [c] (c + 1)) = .vec (c + 1) N := by simp [AV.ren, sig]
  rw [e1]
  simp only [putO, Option.map_some, Option.map_none, AObj.ren, ren_rwB, List.map_cons, List.map_nil, appS0 (nons_len c), List.set_cons_zero, List.append_assoc, List.cons_append, List.nil_append]
  exact k
set_option maxRecDepth 100000 in
set_option maxHeartbeats 4000000 in
theorem rStep_c (x : Ex) (l : List Int) (lab : ByteArray) (hn : (labE x).length ≤ 1000) (hl : l.length ≤ 1000000) : Call1 Tryd.prog 28 [.vp (refV x), .slc 1 (l.map encI) l.length, .v (.string lab)]
  (.slc 1 (encN (setN (labE x).length (stB x l lab))) (setN (labE x).length (stB x l lab)).length) := by
 have hw := wf_refV 0 x
 have hm : wfR 0 (encN (setN (labE x).length (stB x l lab))) = true := wfR_map _ (fun _ => rfl) _
 have hi : wfR 0 (l.map encI) = true := wfR_map _ (fun _ => rfl) _
 have S := set08_c (labE x).length (stB x l lab) hn
 simp only [refV] at hw ⊢
 (refine Call1.enter Tryd.func28 rfl (by kernel_rfl) (by kernel_rfl) rfl (by simp only [go_sem, wfL, AV.wf, Bool.and_self, Bool.and_true, Bool.true_and, hw, hm, hi]) (by simp only [go_sem, wfL, AV.wf, wf_encS, Bool.and_self, Bool.and_true, Bool.true_and, hw, hm, hi]) ?_; simp only [Tryd.ntmps28, Tryd.results28, List.length_cons, List.length_nil, Nat.reduceAdd, Nat.reduceSub, List.replicate_succ, List.replicate_zero, List.cons_append, List.nil_append])
 have e0 : List.replicate (labE x).length [AV.v (.bool false)] = rwB (labE x).length (frB x (l.take 0)) := rwB_false _
 repeat (first | (with_reducible first | refine Stp.up ?_ | refine fun (K : AK) hK => ?_ | refine wD ?_ | refine adrawG_k (by decide) ?_ | refine adrawG_e (by decide) ?_ | (refine hK _ ?_; clear hK K)) | simp only [go_sem, e0] | with_reducible refine wA ?_ | clear hK K)
 refine awp_loopO (ι := Nat × Nat) 9 (fun s => [(7, .vec s.2 (labE x).length), (8, .v (.int .i64 s.1))]) (fun s => nons s.2 ++ [some ⟨4, 1, true, rwB (labE x).length (frB x (l.take s.1))⟩]) (fun s => l.length - s.1) (fun s => s.1 ≤ l.length) (0, 0) (by simp) ?_ ?_
 ·(refine wk_mk ?_ ?_ ?_ <;> simp only [frm, List.foldl_cons, List.foldl_nil, List.replicate_succ, List.replicate_zero, WkT, WkO, AV.v.injEq, Value.int.injEq, Value.bool.injEq, Value.string.injEq, AV.vec.injEq, AV.ptr.injEq, true_or, or_true, false_or, or_false, AObj.mk.injEq, forall_eq_apply_imp_iff, forall_eq, forall_eq', go_sem])
  ·exact ⟨rfl, rfl⟩
  ·exact ⟨.inr ⟨rfl, fun ob e => by cases e; exact wf_rwB _ _ _⟩, trivial⟩
 ·rintro ⟨i, c⟩ hi K hK
  simp only at hi ⊢
  have g0 := fun tl => appG0 (nons_len c) tl
  have s0 := fun tl x => appS0 (nons_len c) tl x
  repeat (first | (with_reducible first | refine Stp.up ?_ | refine fun (K : AK) hK => ?_ | refine wD ?_ | refine adrawG_k (by decide) ?_ | refine adrawG_e (by decide) ?_ | (refine hK _ ?_; clear hK K)) | simp only [go_sem] | with_reducible refine wA ?_ | clear hK K)
  refine AIf.part (fun h => ?_) (fun h => ?_)
  ·have hlt : i < l.length := by (try simp only [bne_iff_ne, ne_eq, bne_eq_false_iff_eq, beq_iff_eq, beq_eq_false_iff_ne, decide_eq_true_eq, decide_eq_false_iff_not, Bool.not_eq_eq_eq_not, Int.natCast_inj, Int.ofNat_lt, Int.ofNat_le] at h); omega
   have eG := getD_map encI l i [] hlt
   have eW := wrap_succ (k := i) (by omega)
   have eF := frB_snoc (x := x) hlt
   simp only [encI] at eG
   generalize hp : l[i] = p at eG eF
   by_cases h0 : p = 0
   ·have e1 : frmB x p = fstB x 0 := by funext q; rw [frmB, if_pos h0]
    simp only [e1] at eF
    subst h0
    repeat (first | (with_reducible first | refine Stp.up ?_ | refine fun (K : AK) hK => ?_ | refine wD ?_ | refine adrawG_k (by decide) ?_ | refine adrawG_e (by decide) ?_ | (refine hK _ ?_; clear hK K)) | simp only [go_sem, eG] | with_reducible refine wA ?_ | clear hK K)
    refine ACallV.either hn ?_
    repeat (first | (with_reducible first | refine Stp.up ?_ | refine fun (K : AK) hK => ?_ | refine wD ?_ | refine adrawG_k (by decide) ?_ | refine adrawG_e (by decide) ?_ | (refine hK _ ?_; clear hK K)) | simp only [go_sem, eW] | with_reducible refine wA ?_ | clear hK K)
    refine LNext.mk (i + 1, c + 1) (by simp only; omega) (by simp only; omega) (wk_mk ?_ ?_ (Nat.zero_le _))
    ·simp only [go_sem, WkT, true_or, or_true, true_and, and_true, List.length_append, nons_len, List.length_cons, List.length_nil]
     exact .inr (decide_eq_true (by omega))
    ·simp only [eF]
     rw [nons_succ]
     exact wkO_nons c ⟨.inl rfl, .inr ⟨rfl, fun ob e => by cases e; exact wf_rwB _ _ _⟩, trivial⟩
   ·have b0 : (p == 0) = false := beq_false_of_ne h0
    by_cases h1 : 0 < p ∧ p ≤ (labE x).length
    ·obtain ⟨j, rfl⟩ : ∃ j : Nat, p = (j : Int) + 1 := ⟨(p - 1).toNat, by omega⟩
     have b1 : decide ((0 : Int) < (j : Int) + 1) = true := decide_eq_true (by omega)
     have b2 : decide ((j : Int) + 1 ≤ ((labE x).length : Int)) = true := decide_eq_true (by omega)
     have eV : IntKind.i64.wrap ((j : Int) + 1 - 1) = (j : Int) := by rw [wrap_id (by omega) (by omega)]; omega
     have eM := mxB_at (N := (labE x).length) (f := folB x 0) (i := j) (by omega)
     have e1 : frmB x ((j : Int) + 1) = folB x 0 j := by funext q; rw [frmB, if_neg h0, if_pos h1, show ((j : Int) + 1).toNat - 1 = j by omega]
     simp only [e1] at eF
     repeat ((fail_if_success (with_reducible refine stopR (i := 7) ?_)); first | (with_reducible first | refine Stp.up ?_ | refine fun (K : AK) hK => ?_ | refine adrawG_k (by decide) ?_ | refine adrawG_e (by decide) ?_ | (refine hK _ ?_; clear hK K)) | simp only [go_sem, eG, b0, b1, b2, eV, eM, Go.undef] | with_reducible refine wA ?_ | clear hK K)
     first | refine wE ?_ | refine wD ?_
     repeat (first | (with_reducible first | refine Stp.up ?_ | refine fun (K : AK) hK => ?_ | refine adrawG_k (by decide) ?_ | refine adrawG_e (by decide) ?_ | (refine hK _ ?_; clear hK K)) | simp only [go_sem, eG, b0, b1, b2, eV, eM, Go.undef] | with_reducible refine wA ?_ | clear hK K)
     refine awp_drawG [12] [] (by decide +kernel) (by kernel_rfl) ?_
     repeat (first | (with_reducible first | refine Stp.up ?_ | refine fun (K : AK) hK => ?_ | refine adrawG_k (by decide) ?_ | refine adrawG_e (by decide) ?_ | (refine hK _ ?_; clear hK K)) | simp only [go_sem, eG, b0, b1, b2, eV, eM, Go.undef] | with_reducible refine wA ?_ | clear hK K)
     refine ACallE.either hn ?_
     repeat (first | (with_reducible first | refine Stp.up ?_ | refine fun (K : AK) hK => ?_ | refine wD ?_ | refine adrawG_k (by decide) ?_ | refine adrawG_e (by decide) ?_ | (refine hK _ ?_; clear hK K)) | simp only [go_sem, eW] | with_reducible refine wA ?_ | clear hK K)
     refine LNext.mk (i + 1, c + 1) (by simp only; omega) (by simp only; omega) (wk_mk ?_ ?_ (Nat.zero_le _))
     ·simp only [go_sem, WkT, true_or, or_true, true_and, and_true, List.length_append, nons_len, List.length_cons, List.length_nil]
      exact .inr (decide_eq_true (by omega))
     ·simp only [eF]
      rw [nons_succ]
      exact wkO_nons c ⟨.inl rfl, .inr ⟨rfl, fun ob e => by cases e; exact wf_rwB _ _ _⟩, trivial⟩
    ·have e1 : frmB x p = fun _ => false := by funext q; rw [frmB, if_neg h0, if_neg h1]
     simp only [e1, Bool.or_false] at eF
     rcases Int.lt_or_le 0 p with b | b
     ·have b1 : decide (0 < p) = true := decide_eq_true b
      have b2 : decide (p ≤ ((labE x).length : Int)) = false := decide_eq_false (by omega)
      repeat (first | (with_reducible first | refine Stp.up ?_ | refine fun (K : AK) hK => ?_ | refine wD ?_ | refine adrawG_k (by decide) ?_ | refine adrawG_e (by decide) ?_ | (refine hK _ ?_; clear hK K)) | simp only [go_sem, eG, b0, b1, b2, eW, Go.undef] | with_reducible refine wA ?_ | clear hK K)
      refine LNext.mk (i + 1, c) (by simp only; omega) (by simp only; omega) (wk_mk ?_ ?_ (Nat.zero_le _))
      ·simp only [go_sem, WkT, true_or, or_true, true_and, and_true, List.length_append, nons_len, List.length_cons, List.length_nil]
       exact .inr (decide_eq_true (by omega))
      ·simp only [eF]
       exact wkO_nons c ⟨.inr ⟨rfl, fun ob e => by cases e; exact wf_rwB _ _ _⟩, trivial⟩
     ·have b1 : decide (0 < p) = false := decide_eq_false (by omega)
      repeat (first | (with_reducible first | refine Stp.up ?_ | refine fun (K : AK) hK => ?_ | refine wD ?_ | refine adrawG_k (by decide) ?_ | refine adrawG_e (by decide) ?_ | (refine hK _ ?_; clear hK K)) | simp only [go_sem, eG, b0, b1, eW, Go.undef] | with_reducible refine wA ?_ | clear hK K)
      refine LNext.mk (i + 1, c) (by simp only; omega) (by simp only; omega) (wk_mk ?_ ?_ (Nat.zero_le _))
      ·simp only [go_sem, WkT, true_or, or_true, true_and, and_true, List.length_append, nons_len, List.length_cons, List.length_nil]
       exact .inr (decide_eq_true (by omega))
      ·simp only [eF]
       exact wkO_nons c ⟨.inr ⟨rfl, fun ob e => by cases e; exact wf_rwB _ _ _⟩, trivial⟩
  ·have e1 : l.take i = l := List.take_of_length_le (by (try simp only [bne_iff_ne, ne_eq, bne_eq_false_iff_eq, beq_iff_eq, beq_eq_false_iff_ne, decide_eq_true_eq, decide_eq_false_iff_not, Bool.not_eq_eq_eq_not, Int.natCast_inj, Int.ofNat_lt, Int.ofNat_le] at h); omega)
   simp only [e1]
   repeat (first | (with_reducible first | refine Stp.up ?_ | refine fun (K : AK) hK => ?_ | refine wD ?_ | refine adrawG_k (by decide) ?_ | refine adrawG_e (by decide) ?_ | (refine hK _ ?_; clear hK K)) | simp only [go_sem] | with_reducible refine wA ?_ | clear hK K)
   have ek0 := kpB_0 (frB x l) (labE x) lab
   refine awp_loopO (ι := Nat) 10 (fun j => [(9, .v (.int .i64 j))]) (fun j => nons c ++ [some ⟨4, 1, true, rwB (labE x).length (kpB (frB x l) (labE x) lab j)⟩]) (fun j => (labE x).length - j) (fun j => j ≤ (labE x).length) 0 (by omega) ?_ ?_
   ·simp only [ek0]
    refine wk_mk ?_ ?_ (Nat.zero_le _)
    ·simp only [go_sem, WkT, true_or, or_true, true_and, and_true, List.length_append, nons_len, List.length_cons, List.length_nil]
     exact ⟨.inr (decide_eq_true (by omega)), .inr rfl⟩
    ·exact wkO_nons c ⟨.inr ⟨rfl, fun ob e => by cases e; exact wf_rwB _ _ _⟩, trivial⟩
   ·intro j hj K hK
    repeat (first | (with_reducible first | refine Stp.up ?_ | refine fun (K : AK) hK => ?_ | refine wD ?_ | refine adrawG_k (by decide) ?_ | refine adrawG_e (by decide) ?_ | (refine hK _ ?_; clear hK K)) | simp only [go_sem, g0, s0] | with_reducible refine wA ?_ | clear hK K)
    refine AIf.part (fun h => ?_) (fun h => ?_)
    ·have hlt : j < (labE x).length := by (try simp only [bne_iff_ne, ne_eq, bne_eq_false_iff_eq, beq_iff_eq, beq_eq_false_iff_ne, decide_eq_true_eq, decide_eq_false_iff_not, Bool.not_eq_eq_eq_not, Int.natCast_inj, Int.ofNat_lt, Int.ofNat_le] at h); omega
     have eW := wrap_succ (k := j) (by omega)
     have eR := rwB_at (g := kpB (frB x l) (labE x) lab j) hlt
     rw [kpB_at] at eR
     have eS := fun v => rwB_set (N := (labE x).length) (j := j) (g := kpB (frB x l) (labE x) lab j) (v := v)
     have eU := kpB_succ (frB x l) (labE x) lab j
     have eL := encS_at hlt
     cases hg : frB x l j
     all_goals
      simp only [hg, Bool.false_and, Bool.true_and] at eU eR
      repeat (first | (with_reducible first | refine Stp.up ?_ | refine fun (K : AK) hK => ?_ | refine wD ?_ | refine adrawG_k (by decide) ?_ | refine adrawG_e (by decide) ?_ | (refine hK _ ?_; clear hK K)) | simp only [go_sem, eW, eR, eS, eU, eL, g0, s0, Go.undef] | with_reducible refine wA ?_ | clear hK K)
      refine LNext.mk (j + 1) (by omega) (by omega) (wk_mk ?_ ?_ (Nat.zero_le _))
      ·simp only [go_sem, WkT, true_or, or_true, true_and, and_true, List.length_append, nons_len, List.length_cons, List.length_nil]
       exact .inr (decide_eq_true (by omega))
      ·exact wkO_nons c ⟨.inr ⟨rfl, fun ob e => by cases e; exact wf_rwB _ _ _⟩, trivial⟩
    ·have e2 : j = (labE x).length := by (try simp only [bne_iff_ne, ne_eq, bne_eq_false_iff_eq, beq_iff_eq, beq_eq_false_iff_ne, decide_eq_true_eq, decide_eq_false_iff_not, Bool.not_eq_eq_eq_not, Int.natCast_inj, Int.ofNat_lt, Int.ofNat_le] at h); omega
     have eE : rwB (labE x).length (kpB (frB x l) (labE x) lab (labE x).length) = rwB (labE x).length (stB x l lab) := rwB_eq fun q hq => by rw [kpB, if_pos hq, stB]
     simp only [e2]
     simp only [eE]
     repeat ((fail_if_success (with_reducible refine stopR (i := 13) ?_)); first | (with_reducible first | refine Stp.up ?_ | refine fun (K : AK) hK => ?_ | refine adrawG_k (by decide) ?_ | refine adrawG_e (by decide) ?_ | (refine hK _ ?_; clear hK K)) | simp only [go_sem] | with_reducible refine wA ?_ | clear hK K)
     refine awp_turn (turn_free 7 c rfl (g0 _) rfl (rwB_len _ _)) (by kernel_rfl) ?_
     repeat (first | (with_reducible first | refine Stp.up ?_ | refine fun (K : AK) hK => ?_ | refine wD ?_ | refine adrawG_k (by decide) ?_ | refine adrawG_e (by decide) ?_ | (refine hK _ ?_; clear hK K)) | simp only [go_sem] | with_reducible refine wA ?_ | clear hK K)
     refine ACallV.one S ?_
     repeat (first | (with_reducible first | refine Stp.up ?_ | refine fun (K : AK) hK => ?_ | refine wD ?_ | refine adrawG_k (by decide) ?_ | refine adrawG_e (by decide) ?_ | (refine hK _ ?_; clear hK K)) | simp only [go_sem] | with_reducible refine wA ?_ | clear hK K)
     exact AFz.slc hm
end Go.Proofs.YtmdkgajjekbanaaDoor
