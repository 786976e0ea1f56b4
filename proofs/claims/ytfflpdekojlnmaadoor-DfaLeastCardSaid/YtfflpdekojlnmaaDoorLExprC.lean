/- expr: Right, Size, Empty, Takes: the contracts. -/
import Derived.Test.YtfflpdekojlnmaaDoorLLens
import Derived.Test.YtfflpdekojlnmaaDoorLOnceC
set_option linter.unusedSimpArgs false
set_option linter.unusedVariables false
namespace Go.Proofs.YtfflpdekojlnmaaDoor
open Go.RowKit

theorem exRight_c (x : Ex) (h : x.ok) : Call1 Tryd.prog 21 [.agg (encE x)] (.v (.bool (exRight x))) :=
 .of_ret (by kernel_rfl) (by simp only [wfL, AV.wf, wf_encE1, Bool.and_self]) (fun D nu w vargs hh => by
  obtain ⟨a, rfl, ha⟩ := ras_one hh
  obtain ⟨ca, rfl, ka⟩ := ra_agg ha
  exact xRight_any x ca w (rls_ex x ca ka) h)

def idxX (p : Ex → Bool) : List Ex → Nat → Int
 | [], _ => -1
 | x :: xs, i => if p x then (i : Int) else idxX p xs (i + 1)
theorem idxX_any (p : Ex → Bool) : ∀ (l : List Ex) (i : Nat), decide (0 ≤ idxX p l i) = l.any p
 | [], i => rfl
 | x :: xs, i => by
  rw [idxX, List.any_cons]
  cases p x with
  | true => simp
  | false => simpa using idxX_any p xs (i + 1)
set_option maxRecDepth 100000 in
set_option maxHeartbeats 4000000 in
theorem indexFuncX_c {g : FuncId} (p : Ex → Bool) (l : List Ex) (hl : l.length ≤ 1000000) (H : ∀ x, x ∈ l → Call1 Tryd.prog g [.agg (encE x)] (.v (.bool (p x)))) :
  Call1 Tryd.prog 78 [.slc 3 (l.map encE) l.length, .fn g [] []] (.v (.int .i64 (idxX p l 0))) := by
 (refine Call1.enter Tryd.func78 rfl (by kernel_rfl) (by kernel_rfl) rfl (by first | rfl | (simp only [go_sem, Bool.and_self, Bool.and_true, Bool.true_and])) (by first | rfl | (simp only [go_sem, Bool.and_self, Bool.and_true, Bool.true_and])) ?_; simp only [Tryd.ntmps78, Tryd.results78, List.length_cons, List.length_nil, Nat.reduceAdd, Nat.reduceSub, List.replicate_succ, List.replicate_zero, List.cons_append, List.nil_append])
 repeat (first | (with_reducible first | refine Stp.up ?_ | refine fun (K : AK) hK => ?_ | (refine hK _ ?_; clear hK K)) | simp only [go_sem] | with_reducible refine wA ?_ | clear hK K)
 refine awp_loopK (ι := Nat) 8 (fun i => [(5, .undef), (8, .v (.int .i64 i))]) (fun i => l.length - i) (fun i => i ≤ l.length ∧ idxX p l 0 = idxX p (l.drop i) i) 0 ⟨Nat.zero_le _, rfl⟩ ?_ ?_
 ·(refine wk_mk ?_ ?_ ?_ <;> simp only [frm, List.foldl_cons, List.foldl_nil, List.replicate_succ, List.replicate_zero, WkT, WkO, AV.v.injEq, Value.int.injEq, Value.bool.injEq, Value.string.injEq, AV.vec.injEq, AV.ptr.injEq, true_or, or_true, false_or, or_false, AObj.mk.injEq, forall_eq_apply_imp_iff, forall_eq, forall_eq', go_sem])
  rfl
 rintro i ⟨hi, hx⟩ K hK
 repeat (first | (with_reducible first | refine Stp.up ?_ | refine fun (K : AK) hK => ?_ | (refine hK _ ?_; clear hK K)) | simp only [go_sem] | with_reducible refine wA ?_ | clear hK K)
 refine AIf.part (fun h => ?_) (fun h => ?_)
 ·have hlt : i < l.length := by (try simp only [bne_iff_ne, ne_eq, bne_eq_false_iff_eq, beq_iff_eq, beq_eq_false_iff_ne, decide_eq_true_eq, decide_eq_false_iff_not, Bool.not_eq_eq_eq_not, Int.natCast_inj, Int.ofNat_lt, Int.ofNat_le] at h); omega
  have eW := wrap_succ (k := i) (by omega)
  have eG := getD_map encE l i [] hlt
  have HX := H l[i] (List.getElem_mem hlt)
  rw [List.drop_eq_getElem_cons hlt, idxX] at hx
  simp only [encE_eq] at HX eG
  repeat (first | (with_reducible first | refine Stp.up ?_ | refine fun (K : AK) hK => ?_ | (refine hK _ ?_; clear hK K)) | simp only [go_sem, eG, encE_eq] | with_reducible refine wA ?_ | clear hK K)
  refine ACallV.one HX ?_
  rcases Bool.eq_false_or_eq_true (p l[i]) with hp | hp
  ·rw [hp, if_pos rfl] at hx
   repeat (first | (with_reducible first | refine Stp.up ?_ | refine fun (K : AK) hK => ?_ | (refine hK _ ?_; clear hK K)) | simp only [go_sem, hp] | with_reducible refine wA ?_ | clear hK K)
   rw [hx]
  ·rw [hp, if_neg (by decide)] at hx
   repeat (first | (with_reducible first | refine Stp.up ?_ | refine fun (K : AK) hK => ?_ | (refine hK _ ?_; clear hK K)) | simp only [go_sem, hp, eW] | with_reducible refine wA ?_ | clear hK K)
   exact LNext.mk (i + 1) ⟨by omega, hx⟩ (by omega) (by (refine wk_mk ?_ ?_ ?_ <;> simp only [frm, List.foldl_cons, List.foldl_nil, List.replicate_succ, List.replicate_zero, WkT, WkO, AV.v.injEq, Value.int.injEq, Value.bool.injEq, Value.string.injEq, AV.vec.injEq, AV.ptr.injEq, true_or, or_true, false_or, or_false, AObj.mk.injEq, forall_eq_apply_imp_iff, forall_eq, forall_eq', go_sem]))
 ·have : i = l.length := by (try simp only [bne_iff_ne, ne_eq, bne_eq_false_iff_eq, beq_iff_eq, beq_eq_false_iff_ne, decide_eq_true_eq, decide_eq_false_iff_not, Bool.not_eq_eq_eq_not, Int.natCast_inj, Int.ofNat_lt, Int.ofNat_le] at h); omega
  rw [this, List.drop_length, idxX] at hx
  repeat (first | (with_reducible first | refine Stp.up ?_ | refine fun (K : AK) hK => ?_ | (refine hK _ ?_; clear hK K)) | simp only [go_sem] | with_reducible refine wA ?_ | clear hK K)
  rw [hx]
set_option maxRecDepth 100000 in
theorem containsFuncX_c {g : FuncId} (p : Ex → Bool) (l : List Ex) (hl : l.length ≤ 1000000) (H : ∀ x, x ∈ l → Call1 Tryd.prog g [.agg (encE x)] (.v (.bool (p x)))) :
  Call1 Tryd.prog 57 [.slc 3 (l.map encE) l.length, .fn g [] []] (.v (.bool (l.any p))) := by
 have C := indexFuncX_c p l hl H
 (refine Call1.enter Tryd.func57 rfl (by kernel_rfl) (by kernel_rfl) rfl (by first | rfl | (simp only [go_sem, Bool.and_self, Bool.and_true, Bool.true_and])) (by first | rfl | (simp only [go_sem, Bool.and_self, Bool.and_true, Bool.true_and])) ?_; simp only [Tryd.ntmps57, Tryd.results57, List.length_cons, List.length_nil, Nat.reduceAdd, Nat.reduceSub, List.replicate_succ, List.replicate_zero, List.cons_append, List.nil_append])
 repeat (first | (with_reducible first | refine Stp.up ?_ | refine fun (K : AK) hK => ?_ | (refine hK _ ?_; clear hK K)) | simp only [go_sem] | clear hK K)
 refine ACallV.one C ?_
 repeat (first | (with_reducible first | refine Stp.up ?_ | refine fun (K : AK) hK => ?_ | (refine hK _ ?_; clear hK K)) | simp only [go_sem] | clear hK K)
 rw [idxX_any]
set_option maxRecDepth 100000 in
theorem notEmpty_c (x : Ex) (H : Call1 Tryd.prog 37 [.agg (encE x)] (.v (.bool (exEmpty x)))) : Call1 Tryd.prog 58 [.agg (encE x)] (.v (.bool (!exEmpty x))) := by
 simp only [encE_eq] at H ⊢
 (refine Call1.enter Tryd.func58 rfl (by kernel_rfl) (by kernel_rfl) rfl (by first | rfl | (simp only [go_sem, Bool.and_self, Bool.and_true, Bool.true_and])) (by first | rfl | (simp only [go_sem, Bool.and_self, Bool.and_true, Bool.true_and])) ?_; simp only [Tryd.ntmps58, Tryd.results58, List.length_cons, List.length_nil, Nat.reduceAdd, Nat.reduceSub, List.replicate_succ, List.replicate_zero, List.cons_append, List.nil_append])
 repeat (first | (with_reducible first | refine Stp.up ?_ | refine fun (K : AK) hK => ?_ | (refine hK _ ?_; clear hK K)) | simp only [go_sem] | clear hK K)
 refine ACallV.one H ?_
 repeat (first | (with_reducible first | refine Stp.up ?_ | refine fun (K : AK) hK => ?_ | (refine hK _ ?_; clear hK K)) | simp only [go_sem] | clear hK K)
set_option maxRecDepth 100000 in
set_option maxHeartbeats 4000000 in
theorem empty_c (x : Ex) (hx : x.lens 1000000) : Call1 Tryd.prog 37 [.agg (encE x)] (.v (.bool (exEmpty x))) := by
 induction x using Ex.ind with
 | h k s l ih =>
  have hl : l.length ≤ 1000000 := hx (.mk k s l) (by rw [exParts]; exact List.mem_cons_self)
  have H := fun x (h : x ∈ l) => ih x h (fun y hy => hx y (by rw [exParts, exsParts_eq]; exact List.mem_cons_of_mem _ (List.mem_flatMap.2 ⟨x, h, hy⟩)))
  have C1 := containsFuncX_c exEmpty l hl H
  have C2 := containsFuncX_c (fun x => !exEmpty x) l hl (fun x h => notEmpty_c x (H x h))
  have e1 : l.all exEmpty = !l.any (fun x => !exEmpty x) := by simp [List.all_eq_not_any_not]
  simp only [encE_eq, Ex.kind, Ex.label, Ex.kids, exEmpty, exEmAny_eq, exEmAll_eq]
  by_cases h4 : k = 4
  ·subst h4
   (refine Call1.enter Tryd.func37 rfl (by kernel_rfl) (by kernel_rfl) rfl (by first | rfl | (simp only [go_sem, Bool.and_self, Bool.and_true, Bool.true_and])) (by first | rfl | (simp only [go_sem, Bool.and_self, Bool.and_true, Bool.true_and])) ?_; simp only [Tryd.ntmps37, Tryd.results37, List.length_cons, List.length_nil, Nat.reduceAdd, Nat.reduceSub, List.replicate_succ, List.replicate_zero, List.cons_append, List.nil_append])
   repeat (first | (with_reducible first | refine Stp.up ?_ | refine fun (K : AK) hK => ?_ | (refine hK _ ?_; clear hK K)) | simp only [go_sem] | with_reducible refine wA ?_ | clear hK K)
  ·by_cases h6 : k = 6
   ·subst h6
    (refine Call1.enter Tryd.func37 rfl (by kernel_rfl) (by kernel_rfl) rfl (by first | rfl | (simp only [go_sem, Bool.and_self, Bool.and_true, Bool.true_and])) (by first | rfl | (simp only [go_sem, Bool.and_self, Bool.and_true, Bool.true_and])) ?_; simp only [Tryd.ntmps37, Tryd.results37, List.length_cons, List.length_nil, Nat.reduceAdd, Nat.reduceSub, List.replicate_succ, List.replicate_zero, List.cons_append, List.nil_append])
    repeat (first | (with_reducible first | refine Stp.up ?_ | refine fun (K : AK) hK => ?_ | (refine hK _ ?_; clear hK K)) | simp only [go_sem] | with_reducible refine wA ?_ | clear hK K)
   ·by_cases h3 : k = 3
    ·subst h3
     (refine Call1.enter Tryd.func37 rfl (by kernel_rfl) (by kernel_rfl) rfl (by first | rfl | (simp only [go_sem, Bool.and_self, Bool.and_true, Bool.true_and])) (by first | rfl | (simp only [go_sem, Bool.and_self, Bool.and_true, Bool.true_and])) ?_; simp only [Tryd.ntmps37, Tryd.results37, List.length_cons, List.length_nil, Nat.reduceAdd, Nat.reduceSub, List.replicate_succ, List.replicate_zero, List.cons_append, List.nil_append])
     repeat (first | (with_reducible first | refine Stp.up ?_ | refine fun (K : AK) hK => ?_ | (refine hK _ ?_; clear hK K)) | simp only [go_sem] | with_reducible refine wA ?_ | clear hK K)
     refine ACallV.one C1 ?_
     repeat (first | (with_reducible first | refine Stp.up ?_ | refine fun (K : AK) hK => ?_ | (refine hK _ ?_; clear hK K)) | simp only [go_sem] | with_reducible refine wA ?_ | clear hK K)
    ·by_cases h2 : k = 2
     ·subst h2
      (refine Call1.enter Tryd.func37 rfl (by kernel_rfl) (by kernel_rfl) rfl (by first | rfl | (simp only [go_sem, Bool.and_self, Bool.and_true, Bool.true_and])) (by first | rfl | (simp only [go_sem, Bool.and_self, Bool.and_true, Bool.true_and])) ?_; simp only [Tryd.ntmps37, Tryd.results37, List.length_cons, List.length_nil, Nat.reduceAdd, Nat.reduceSub, List.replicate_succ, List.replicate_zero, List.cons_append, List.nil_append])
      repeat (first | (with_reducible first | refine Stp.up ?_ | refine fun (K : AK) hK => ?_ | (refine hK _ ?_; clear hK K)) | simp only [go_sem] | with_reducible refine wA ?_ | clear hK K)
      refine ACallV.one C2 ?_
      repeat (first | (with_reducible first | refine Stp.up ?_ | refine fun (K : AK) hK => ?_ | (refine hK _ ?_; clear hK K)) | simp only [go_sem] | with_reducible refine wA ?_ | clear hK K)
      rw [e1]
     ·by_cases h5 : k = 5
      ·subst h5
       (refine Call1.enter Tryd.func37 rfl (by kernel_rfl) (by kernel_rfl) rfl (by first | rfl | (simp only [go_sem, Bool.and_self, Bool.and_true, Bool.true_and])) (by first | rfl | (simp only [go_sem, Bool.and_self, Bool.and_true, Bool.true_and])) ?_; simp only [Tryd.ntmps37, Tryd.results37, List.length_cons, List.length_nil, Nat.reduceAdd, Nat.reduceSub, List.replicate_succ, List.replicate_zero, List.cons_append, List.nil_append])
       repeat (first | (with_reducible first | refine Stp.up ?_ | refine fun (K : AK) hK => ?_ | (refine hK _ ?_; clear hK K)) | simp only [go_sem] | with_reducible refine wA ?_ | clear hK K)
       refine ACallV.one C2 ?_
       repeat (first | (with_reducible first | refine Stp.up ?_ | refine fun (K : AK) hK => ?_ | (refine hK _ ?_; clear hK K)) | simp only [go_sem] | with_reducible refine wA ?_ | clear hK K)
       rw [e1]
      ·have f4 : (k == 4) = false := beq_false_of_ne h4
       have f6 : (k == 6) = false := beq_false_of_ne h6
       have f3 : (k == 3) = false := beq_false_of_ne h3
       have f2 : (k == 2) = false := beq_false_of_ne h2
       have f5 : (k == 5) = false := beq_false_of_ne h5
       simp only [if_neg h4, if_neg h6, if_neg h3, if_neg h2, if_neg h5]
       (refine Call1.enter Tryd.func37 rfl (by kernel_rfl) (by kernel_rfl) rfl (by first | rfl | (simp only [go_sem, Bool.and_self, Bool.and_true, Bool.true_and])) (by first | rfl | (simp only [go_sem, Bool.and_self, Bool.and_true, Bool.true_and])) ?_; simp only [Tryd.ntmps37, Tryd.results37, List.length_cons, List.length_nil, Nat.reduceAdd, Nat.reduceSub, List.replicate_succ, List.replicate_zero, List.cons_append, List.nil_append])
       repeat (first | (with_reducible first | refine Stp.up ?_ | refine fun (K : AK) hK => ?_ | (refine hK _ ?_; clear hK K)) | simp only [go_sem, f4, f6, f3, f2, f5] | with_reducible refine wA ?_ | clear hK K)
def emptyB (x : Ex) : Bool := exRight x && exEmpty x
theorem right_lens {x : Ex} (h : exRight x = true) : x.lens 1000000 := fun y hy => by
 simp only [exRight, Bool.and_eq_true, decide_eq_true_eq] at h
 have h1 := parts_sub x y hy
 have h2 := kids_le y
 omega
set_option maxRecDepth 100000 in
theorem Empty_c (x : Ex) (h : x.ok) : Call1 Tryd.prog 22 [.agg (encE x)] (.v (.bool (emptyB x))) := by
 have R := exRight_c x h
 rcases Bool.eq_false_or_eq_true (exRight x) with hr | hr
 ·have E := empty_c x (right_lens hr)
  rw [hr] at R
  rw [show emptyB x = exEmpty x by rw [emptyB, hr]; rfl]
  simp only [encE_eq] at R E ⊢
  (refine Call1.enter Tryd.func22 rfl (by kernel_rfl) (by kernel_rfl) rfl (by first | rfl | (simp only [go_sem, Bool.and_self, Bool.and_true, Bool.true_and])) (by first | rfl | (simp only [go_sem, Bool.and_self, Bool.and_true, Bool.true_and])) ?_; simp only [Tryd.ntmps22, Tryd.results22, List.length_cons, List.length_nil, Nat.reduceAdd, Nat.reduceSub, List.replicate_succ, List.replicate_zero, List.cons_append, List.nil_append])
  repeat (first | (with_reducible first | refine Stp.up ?_ | refine fun (K : AK) hK => ?_ | (refine hK _ ?_; clear hK K)) | simp only [go_sem] | clear hK K)
  refine ACallV.one R ?_
  repeat (first | (with_reducible first | refine Stp.up ?_ | refine fun (K : AK) hK => ?_ | (refine hK _ ?_; clear hK K)) | simp only [go_sem] | clear hK K)
  refine ACallV.one E ?_
  repeat (first | (with_reducible first | refine Stp.up ?_ | refine fun (K : AK) hK => ?_ | (refine hK _ ?_; clear hK K)) | simp only [go_sem] | clear hK K)
 ·rw [hr] at R
  rw [show emptyB x = false by rw [emptyB, hr]; rfl]
  simp only [encE_eq] at R ⊢
  (refine Call1.enter Tryd.func22 rfl (by kernel_rfl) (by kernel_rfl) rfl (by first | rfl | (simp only [go_sem, Bool.and_self, Bool.and_true, Bool.true_and])) (by first | rfl | (simp only [go_sem, Bool.and_self, Bool.and_true, Bool.true_and])) ?_; simp only [Tryd.ntmps22, Tryd.results22, List.length_cons, List.length_nil, Nat.reduceAdd, Nat.reduceSub, List.replicate_succ, List.replicate_zero, List.cons_append, List.nil_append])
  repeat (first | (with_reducible first | refine Stp.up ?_ | refine fun (K : AK) hK => ?_ | (refine hK _ ?_; clear hK K)) | simp only [go_sem] | clear hK K)
  refine ACallV.one R ?_
  repeat (first | (with_reducible first | refine Stp.up ?_ | refine fun (K : AK) hK => ?_ | (refine hK _ ?_; clear hK K)) | simp only [go_sem, Go.undef] | clear hK K)
theorem parts_fit (x : Ex) (h : (exParts x).all Ex.part = true) (hn : (exParts x).length ≤ 900) : Fit x ∧ Fit9 x := by
 induction x using Ex.ind with
 | h k s l ih =>
  have hp : partB k s l.length = true := List.all_eq_true.1 h (.mk k s l) (by rw [exParts]; exact List.mem_cons_self)
  have hm : ∀ x, x ∈ l → x ∈ exParts (.mk k s l) := fun x hx => by
   rw [exParts, exsParts_eq]
   exact List.mem_cons_of_mem _ (List.mem_flatMap.2 ⟨x, hx, by obtain ⟨k', s', l'⟩ := x; rw [exParts]; exact List.mem_cons_self⟩)
  have H := fun x (hx : x ∈ l) => ih x hx (List.all_eq_true.2 fun y hy => List.all_eq_true.1 h y (by rw [exParts, exsParts_eq]; exact List.mem_cons_of_mem _ (List.mem_flatMap.2 ⟨x, hx, hy⟩))) (by
   have h1 := parts_sub (.mk k s l) x (hm x hx)
   omega)
  have hl : l.length ≤ 900 := by have := kids_le (.mk k s l); simp only [Ex.kids] at this; omega
  unfold partB at hp
  by_cases h1 : k = 1
  ·subst h1
   simp only [BEq.rfl, if_true, Bool.and_eq_true, decide_eq_true_eq] at hp
   have hl0 : l = [] := List.eq_nil_of_length_eq_zero hp.1
   subst hl0
   exact ⟨.lab s, .lab s⟩
  ·rw [if_neg (by simpa using h1)] at hp
   by_cases h2 : k = 2 ∨ k = 3
   ·rw [if_pos (by simpa using h2)] at hp
    simp only [Bool.and_eq_true, decide_eq_true_eq] at hp
    exact ⟨.many k s l h2 hp.1 (fun x hx => (H x hx).1), .many k s l h2 hl (fun x hx => (H x hx).2)⟩
   ·rw [if_neg (by simpa using h2)] at hp
    by_cases h3 : k = 4 ∨ k = 5 ∨ k = 6
    ·rw [if_pos (by simpa [or_assoc] using h3)] at hp
     simp only [Bool.and_eq_true, decide_eq_true_eq] at hp
     obtain ⟨x, rfl⟩ : ∃ x, l = [x] := by
      match l, hp.1 with
      | [x], _ => exact ⟨x, rfl⟩
     exact ⟨.one k s x h3 (H x (by simp)).1, .one k s x h3 (H x (by simp)).2⟩
    ·rw [if_neg (by simpa [or_assoc] using h3)] at hp; cases hp
theorem right_fit {x : Ex} (h : exRight x = true) : Fit x ∧ Fit9 x := by
 simp only [exRight, Bool.and_eq_true, decide_eq_true_eq] at h
 exact parts_fit x h.2 (by omega)
noncomputable def exTakes (x : Ex) (w : List ByteArray) : Bool := exRight x && @decide (Lg x w) (Classical.propDecidable _)
theorem exTakes_iff {x : Ex} {w : List ByteArray} : exTakes x w = true ↔ exRight x = true ∧ Lg x w := by simp [exTakes]

end Go.Proofs.YtfflpdekojlnmaaDoor
