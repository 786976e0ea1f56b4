/- The document's expressions (ref07): part, Right: the walks. Printed by gen_ref07b.py. -/
import Derived.Test.YtmdkgajjekbanaaDoorELens
set_option linter.unusedSimpArgs false
set_option linter.unusedVariables false
namespace Go.Proofs.YtmdkgajjekbanaaDoor
open Go.RowKit

def allPart (x : Ex) : Bool := (exParts x).all Ex.part
theorem allPart_kids (k : Int) (s : ByteArray) (l : List Ex) : allPart (.mk k s l) = (partB k s l.length && l.all allPart) := by
 unfold allPart
 rw [exParts, exsParts_eq, List.all_cons, List.all_flatMap]; rfl
set_option maxRecDepth 100000 in
set_option maxHeartbeats 8000000 in
theorem part07_c (x : Ex) : (∀ z, z ∈ exParts x → z.kids.length ≤ 1000000 ∧ z.label.size ≤ 1000000000000000) → Call1 Tryd.prog 66 [.agg (encE x)] (.v (.bool (allPart x))) := by
 induction x using Ex.ind with
 | h k s l ih =>
  intro hz
  have hs : l.length ≤ 1000000 ∧ s.size ≤ 1000000000000000 := hz (.mk k s l) (by rw [exParts]; exact List.mem_cons_self)
  have hsub : ∀ y, y ∈ l → Call1 Tryd.prog 66 [.agg (encE y)] (.v (.bool (allPart y))) := fun y hy => ih y hy (fun z hz' => hz z (by rw [exParts, exsParts_eq]; exact List.mem_cons_of_mem _ (List.mem_flatMap.2 ⟨_, hy, hz'⟩)))
  have F := free02_c s hs.2
  rw [encE_eq, allPart_kids]
  simp only [Ex.kind, Ex.label, Ex.kids]
  (refine Call1.enter Tryd.func66 rfl (by kernel_rfl) (by kernel_rfl) rfl (by first | rfl | (simp only [go_sem, Bool.and_self, Bool.and_true, Bool.true_and])) (by first | rfl | (simp only [go_sem, Bool.and_self, Bool.and_true, Bool.true_and])) ?_; simp only [Tryd.ntmps66, Tryd.results66, List.length_cons, List.length_nil, Nat.reduceAdd, Nat.reduceSub, List.replicate_succ, List.replicate_zero, List.cons_append, List.nil_append])
  repeat (first | (with_reducible first | refine Stp.up ?_ | refine fun (K : AK) hK => ?_ | (refine hK _ ?_; clear hK K)) | simp only [go_sem] | with_reducible refine wA ?_ | clear hK K)
  rcases (by by_cases a1 : k = 1 <;> by_cases a2 : k = 2 <;> by_cases a3 : k = 3 <;> by_cases a4 : k = 4 <;> by_cases a5 : k = 5 <;> by_cases a6 : k = 6 <;> simp_all : k = 1 ∨ k = 2 ∨ k = 3 ∨ k = 4 ∨ k = 5 ∨ k = 6 ∨ (k ≠ 1 ∧ k ≠ 2 ∧ k ≠ 3 ∧ k ≠ 4 ∧ k ≠ 5 ∧ k ≠ 6)) with hk | hk | hk | hk | hk | hk | hk
  ·have e1 : (k == 1) = true := by rw [beq_iff_eq]; omega
   have e2 : (k == 2) = false := by rw [← Bool.not_eq_true, beq_iff_eq]; omega
   have e3 : (k == 3) = false := by rw [← Bool.not_eq_true, beq_iff_eq]; omega
   have e4 : (k == 4) = false := by rw [← Bool.not_eq_true, beq_iff_eq]; omega
   have e5 : (k == 5) = false := by rw [← Bool.not_eq_true, beq_iff_eq]; omega
   have e6 : (k == 6) = false := by rw [← Bool.not_eq_true, beq_iff_eq]; omega
   repeat (first | (with_reducible first | refine Stp.up ?_ | refine fun (K : AK) hK => ?_ | (refine hK _ ?_; clear hK K)) | simp only [go_sem, e1, e2, e3, e4, e5, e6] | with_reducible refine wA ?_ | clear hK K)
   refine ACallV.one F ?_
   repeat (first | (with_reducible first | refine Stp.up ?_ | refine fun (K : AK) hK => ?_ | (refine hK _ ?_; clear hK K)) | simp only [go_sem, e1, e2, e3, e4, e5, e6] | with_reducible refine wA ?_ | clear hK K)
   cases hf : freeB s with
   | false =>
    repeat (first | (with_reducible first | refine Stp.up ?_ | refine fun (K : AK) hK => ?_ | (refine hK _ ?_; clear hK K)) | simp only [go_sem, hf, Go.undef] | with_reducible refine wA ?_ | clear hK K)
    rw [partB]; simp only [e1, if_true, hf, Bool.and_false, Bool.false_and]
   | true =>
    repeat (first | (with_reducible first | refine Stp.up ?_ | refine fun (K : AK) hK => ?_ | (refine hK _ ?_; clear hK K)) | simp only [go_sem, hf] | with_reducible refine wA ?_ | clear hK K)
    rcases Nat.eq_zero_or_pos l.length with q | q
    ·have e : l = [] := List.eq_nil_of_length_eq_zero q
     rw [e, partB]; simp [e1, hf]
    ·have a : ((l.length : Int) == 0) = false := by rw [← Bool.not_eq_true, beq_iff_eq]; omega
     have b : decide (l.length = 0) = false := decide_eq_false (by omega)
     rw [a, partB]; simp only [e1, if_true, b, Bool.false_and]
  ·have e1 : (k == 1) = false := by rw [← Bool.not_eq_true, beq_iff_eq]; omega
   have e2 : (k == 2) = true := by rw [beq_iff_eq]; omega
   have e3 : (k == 3) = false := by rw [← Bool.not_eq_true, beq_iff_eq]; omega
   have e4 : (k == 4) = false := by rw [← Bool.not_eq_true, beq_iff_eq]; omega
   have e5 : (k == 5) = false := by rw [← Bool.not_eq_true, beq_iff_eq]; omega
   have e6 : (k == 6) = false := by rw [← Bool.not_eq_true, beq_iff_eq]; omega
   repeat (first | (with_reducible first | refine Stp.up ?_ | refine fun (K : AK) hK => ?_ | (refine hK _ ?_; clear hK K)) | simp only [go_sem, e1, e2, e3, e4, e5, e6] | with_reducible refine wA ?_ | clear hK K)
   refine AIf.part (fun h0 => ?_) (fun h0 => ?_)
   ·have hl : l.length < 2 := by (try simp only [bne_iff_ne, ne_eq, bne_eq_false_iff_eq, beq_iff_eq, beq_eq_false_iff_ne, decide_eq_true_eq, decide_eq_false_iff_not, Bool.not_eq_eq_eq_not, Int.natCast_inj, Int.ofNat_lt, Int.ofNat_le] at h0); omega
    repeat (first | (with_reducible first | refine Stp.up ?_ | refine fun (K : AK) hK => ?_ | (refine hK _ ?_; clear hK K)) | simp only [go_sem, h0] | with_reducible refine wA ?_ | clear hK K)
    have hd : decide (1 < l.length) = false := decide_eq_false (by omega)
    rw [partB]; simp [e1, e2, e3, hd]
   ·have hl : 1 < l.length := by (try simp only [bne_iff_ne, ne_eq, bne_eq_false_iff_eq, beq_iff_eq, beq_eq_false_iff_ne, decide_eq_true_eq, decide_eq_false_iff_not, Bool.not_eq_eq_eq_not, Int.natCast_inj, Int.ofNat_lt, Int.ofNat_le] at h0); omega
    repeat (first | (with_reducible first | refine Stp.up ?_ | refine fun (K : AK) hK => ?_ | (refine hK _ ?_; clear hK K)) | simp only [go_sem, h0] | with_reducible refine wA ?_ | clear hK K)
    refine awp_loopF (ι := Nat) (fun i => [(1, .ptr 0 0 3 0 0), (2, .v (.bool false)), (3, .v (.int .i64 i))]) (fun _ => [some ⟨25, 3, false, [[.v (.int .i64 k), .v (.string s), .slc 3 (l.map encE) l.length]]⟩]) (fun i => l.length - i) (fun i => i ≤ l.length ∧ ∀ j (h : j < l.length), j < i → allPart l[j] = true) 0 ⟨by omega, fun j _ h => absurd h (by omega)⟩ ?_ ?_
    ·(refine wk_mk ?_ ?_ ?_ <;> simp only [frm, List.foldl_cons, List.foldl_nil, List.replicate_succ, List.replicate_zero, WkT, WkO, AV.v.injEq, Value.int.injEq, Value.bool.injEq, Value.string.injEq, AV.vec.injEq, AV.ptr.injEq, true_or, or_true, false_or, or_false, AObj.mk.injEq, forall_eq_apply_imp_iff, forall_eq, forall_eq', go_sem])
     rfl
    ·rintro i ⟨hi, hP⟩ K hK
     simp only [frm, List.foldl_cons, List.foldl_nil, List.replicate_succ, List.replicate_zero, go_sem]
     repeat (first | (with_reducible first | refine Stp.up ?_ | refine fun (K : AK) hK => ?_ | (refine hK _ ?_; clear hK K)) | simp only [go_sem] | with_reducible refine wA ?_ | clear hK K)
     refine AIf.part (fun h => ?_) (fun h => ?_)
     ·have hlt : i < l.length := by (try simp only [bne_iff_ne, ne_eq, bne_eq_false_iff_eq, beq_iff_eq, beq_eq_false_iff_ne, decide_eq_true_eq, decide_eq_false_iff_not, Bool.not_eq_eq_eq_not, Int.natCast_inj, Int.ofNat_lt, Int.ofNat_le] at h); omega
      have eW := wrap_succ (k := i) (by omega)
      have eG := getD_map encE l i [] hlt
      have C := hsub l[i] (List.getElem_mem hlt)
      simp only [encE_eq] at C eG
      repeat (first | (with_reducible first | refine Stp.up ?_ | refine fun (K : AK) hK => ?_ | (refine hK _ ?_; clear hK K)) | simp only [go_sem, eG] | with_reducible refine wA ?_ | clear hK K)
      refine ACallV.one C ?_
      repeat (first | (with_reducible first | refine Stp.up ?_ | refine fun (K : AK) hK => ?_ | (refine hK _ ?_; clear hK K)) | simp only [go_sem, eG] | with_reducible refine wA ?_ | clear hK K)
      refine AIf.part (fun h5 => ?_) (fun h5 => ?_)
      ·repeat (first | (with_reducible first | refine Stp.up ?_ | refine fun (K : AK) hK => ?_ | (refine hK _ ?_; clear hK K)) | simp only [go_sem, eW] | with_reducible refine wA ?_ | clear hK K)
       exact LNext.mk (i + 1) ⟨by omega, fun j hj h3 => (by
        rcases Nat.lt_or_ge j i with r | r
        ·exact hP j hj r
        ·have e : j = i := by omega
         subst e
         exact h5)⟩ (by omega) (by (refine wk_mk ?_ ?_ ?_ <;> simp only [frm, List.foldl_cons, List.foldl_nil, List.replicate_succ, List.replicate_zero, WkT, WkO, AV.v.injEq, Value.int.injEq, Value.bool.injEq, Value.string.injEq, AV.vec.injEq, AV.ptr.injEq, true_or, or_true, false_or, or_false, AObj.mk.injEq, forall_eq_apply_imp_iff, forall_eq, forall_eq', go_sem]))
      ·repeat (first | (with_reducible first | refine Stp.up ?_ | refine fun (K : AK) hK => ?_ | (refine hK _ ?_; clear hK K)) | simp only [go_sem, h5] | with_reducible refine wA ?_ | clear hK K)
       have e : l.all allPart = false := by
        rw [← Bool.not_eq_true, List.all_eq_true]
        intro hh
        rw [hh _ (List.getElem_mem hlt)] at h5; cases h5
       rw [e, Bool.and_false]
     ·have he : i = l.length := by (try simp only [bne_iff_ne, ne_eq, bne_eq_false_iff_eq, beq_iff_eq, beq_eq_false_iff_ne, decide_eq_true_eq, decide_eq_false_iff_not, Bool.not_eq_eq_eq_not, Int.natCast_inj, Int.ofNat_lt, Int.ofNat_le] at h); omega
      have e : l.all allPart = true := List.all_eq_true.2 (fun y hy => by
       obtain ⟨j, hj, rfl⟩ := List.getElem_of_mem hy
       exact hP j hj (by omega))
      repeat (first | (with_reducible first | refine Stp.up ?_ | refine fun (K : AK) hK => ?_ | (refine hK _ ?_; clear hK K)) | simp only [go_sem] | with_reducible refine wA ?_ | clear hK K)
      rw [e, noB_is, Bool.and_true, partB]
      simp only [e1, e2, e3, e4, e5, e6]
      have hd : decide (1 < l.length) = true := decide_eq_true (by omega)
      simp [hd]
  ·have e1 : (k == 1) = false := by rw [← Bool.not_eq_true, beq_iff_eq]; omega
   have e2 : (k == 2) = false := by rw [← Bool.not_eq_true, beq_iff_eq]; omega
   have e3 : (k == 3) = true := by rw [beq_iff_eq]; omega
   have e4 : (k == 4) = false := by rw [← Bool.not_eq_true, beq_iff_eq]; omega
   have e5 : (k == 5) = false := by rw [← Bool.not_eq_true, beq_iff_eq]; omega
   have e6 : (k == 6) = false := by rw [← Bool.not_eq_true, beq_iff_eq]; omega
   repeat (first | (with_reducible first | refine Stp.up ?_ | refine fun (K : AK) hK => ?_ | (refine hK _ ?_; clear hK K)) | simp only [go_sem, e1, e2, e3, e4, e5, e6] | with_reducible refine wA ?_ | clear hK K)
   refine AIf.part (fun h0 => ?_) (fun h0 => ?_)
   ·have hl : l.length < 2 := by (try simp only [bne_iff_ne, ne_eq, bne_eq_false_iff_eq, beq_iff_eq, beq_eq_false_iff_ne, decide_eq_true_eq, decide_eq_false_iff_not, Bool.not_eq_eq_eq_not, Int.natCast_inj, Int.ofNat_lt, Int.ofNat_le] at h0); omega
    repeat (first | (with_reducible first | refine Stp.up ?_ | refine fun (K : AK) hK => ?_ | (refine hK _ ?_; clear hK K)) | simp only [go_sem, h0] | with_reducible refine wA ?_ | clear hK K)
    have hd : decide (1 < l.length) = false := decide_eq_false (by omega)
    rw [partB]; simp [e1, e2, e3, hd]
   ·have hl : 1 < l.length := by (try simp only [bne_iff_ne, ne_eq, bne_eq_false_iff_eq, beq_iff_eq, beq_eq_false_iff_ne, decide_eq_true_eq, decide_eq_false_iff_not, Bool.not_eq_eq_eq_not, Int.natCast_inj, Int.ofNat_lt, Int.ofNat_le] at h0); omega
    repeat (first | (with_reducible first | refine Stp.up ?_ | refine fun (K : AK) hK => ?_ | (refine hK _ ?_; clear hK K)) | simp only [go_sem, h0] | with_reducible refine wA ?_ | clear hK K)
    refine awp_loopF (ι := Nat) (fun i => [(1, .ptr 0 0 3 0 0), (2, .v (.bool false)), (3, .v (.int .i64 i))]) (fun _ => [some ⟨25, 3, false, [[.v (.int .i64 k), .v (.string s), .slc 3 (l.map encE) l.length]]⟩]) (fun i => l.length - i) (fun i => i ≤ l.length ∧ ∀ j (h : j < l.length), j < i → allPart l[j] = true) 0 ⟨by omega, fun j _ h => absurd h (by omega)⟩ ?_ ?_
    ·(refine wk_mk ?_ ?_ ?_ <;> simp only [frm, List.foldl_cons, List.foldl_nil, List.replicate_succ, List.replicate_zero, WkT, WkO, AV.v.injEq, Value.int.injEq, Value.bool.injEq, Value.string.injEq, AV.vec.injEq, AV.ptr.injEq, true_or, or_true, false_or, or_false, AObj.mk.injEq, forall_eq_apply_imp_iff, forall_eq, forall_eq', go_sem])
     rfl
    ·rintro i ⟨hi, hP⟩ K hK
     simp only [frm, List.foldl_cons, List.foldl_nil, List.replicate_succ, List.replicate_zero, go_sem]
     repeat (first | (with_reducible first | refine Stp.up ?_ | refine fun (K : AK) hK => ?_ | (refine hK _ ?_; clear hK K)) | simp only [go_sem] | with_reducible refine wA ?_ | clear hK K)
     refine AIf.part (fun h => ?_) (fun h => ?_)
     ·have hlt : i < l.length := by (try simp only [bne_iff_ne, ne_eq, bne_eq_false_iff_eq, beq_iff_eq, beq_eq_false_iff_ne, decide_eq_true_eq, decide_eq_false_iff_not, Bool.not_eq_eq_eq_not, Int.natCast_inj, Int.ofNat_lt, Int.ofNat_le] at h); omega
      have eW := wrap_succ (k := i) (by omega)
      have eG := getD_map encE l i [] hlt
      have C := hsub l[i] (List.getElem_mem hlt)
      simp only [encE_eq] at C eG
      repeat (first | (with_reducible first | refine Stp.up ?_ | refine fun (K : AK) hK => ?_ | (refine hK _ ?_; clear hK K)) | simp only [go_sem, eG] | with_reducible refine wA ?_ | clear hK K)
      refine ACallV.one C ?_
      repeat (first | (with_reducible first | refine Stp.up ?_ | refine fun (K : AK) hK => ?_ | (refine hK _ ?_; clear hK K)) | simp only [go_sem, eG] | with_reducible refine wA ?_ | clear hK K)
      refine AIf.part (fun h5 => ?_) (fun h5 => ?_)
      ·repeat (first | (with_reducible first | refine Stp.up ?_ | refine fun (K : AK) hK => ?_ | (refine hK _ ?_; clear hK K)) | simp only [go_sem, eW] | with_reducible refine wA ?_ | clear hK K)
       exact LNext.mk (i + 1) ⟨by omega, fun j hj h3 => (by
        rcases Nat.lt_or_ge j i with r | r
        ·exact hP j hj r
        ·have e : j = i := by omega
         subst e
         exact h5)⟩ (by omega) (by (refine wk_mk ?_ ?_ ?_ <;> simp only [frm, List.foldl_cons, List.foldl_nil, List.replicate_succ, List.replicate_zero, WkT, WkO, AV.v.injEq, Value.int.injEq, Value.bool.injEq, Value.string.injEq, AV.vec.injEq, AV.ptr.injEq, true_or, or_true, false_or, or_false, AObj.mk.injEq, forall_eq_apply_imp_iff, forall_eq, forall_eq', go_sem]))
      ·repeat (first | (with_reducible first | refine Stp.up ?_ | refine fun (K : AK) hK => ?_ | (refine hK _ ?_; clear hK K)) | simp only [go_sem, h5] | with_reducible refine wA ?_ | clear hK K)
       have e : l.all allPart = false := by
        rw [← Bool.not_eq_true, List.all_eq_true]
        intro hh
        rw [hh _ (List.getElem_mem hlt)] at h5; cases h5
       rw [e, Bool.and_false]
     ·have he : i = l.length := by (try simp only [bne_iff_ne, ne_eq, bne_eq_false_iff_eq, beq_iff_eq, beq_eq_false_iff_ne, decide_eq_true_eq, decide_eq_false_iff_not, Bool.not_eq_eq_eq_not, Int.natCast_inj, Int.ofNat_lt, Int.ofNat_le] at h); omega
      have e : l.all allPart = true := List.all_eq_true.2 (fun y hy => by
       obtain ⟨j, hj, rfl⟩ := List.getElem_of_mem hy
       exact hP j hj (by omega))
      repeat (first | (with_reducible first | refine Stp.up ?_ | refine fun (K : AK) hK => ?_ | (refine hK _ ?_; clear hK K)) | simp only [go_sem] | with_reducible refine wA ?_ | clear hK K)
      rw [e, noB_is, Bool.and_true, partB]
      simp only [e1, e2, e3, e4, e5, e6]
      have hd : decide (1 < l.length) = true := decide_eq_true (by omega)
      simp [hd]
  ·have e1 : (k == 1) = false := by rw [← Bool.not_eq_true, beq_iff_eq]; omega
   have e2 : (k == 2) = false := by rw [← Bool.not_eq_true, beq_iff_eq]; omega
   have e3 : (k == 3) = false := by rw [← Bool.not_eq_true, beq_iff_eq]; omega
   have e4 : (k == 4) = true := by rw [beq_iff_eq]; omega
   have e5 : (k == 5) = false := by rw [← Bool.not_eq_true, beq_iff_eq]; omega
   have e6 : (k == 6) = false := by rw [← Bool.not_eq_true, beq_iff_eq]; omega
   repeat (first | (with_reducible first | refine Stp.up ?_ | refine fun (K : AK) hK => ?_ | (refine hK _ ?_; clear hK K)) | simp only [go_sem, e1, e2, e3, e4, e5, e6] | with_reducible refine wA ?_ | clear hK K)
   refine AIf.part (fun h0 => ?_) (fun h0 => ?_)
   ·have hl : l.length ≠ 1 := by (try simp only [bne_iff_ne, ne_eq, bne_eq_false_iff_eq, beq_iff_eq, beq_eq_false_iff_ne, decide_eq_true_eq, decide_eq_false_iff_not, Bool.not_eq_eq_eq_not, Int.natCast_inj, Int.ofNat_lt, Int.ofNat_le] at h0); omega
    repeat (first | (with_reducible first | refine Stp.up ?_ | refine fun (K : AK) hK => ?_ | (refine hK _ ?_; clear hK K)) | simp only [go_sem, h0] | with_reducible refine wA ?_ | clear hK K)
    have hd : decide (l.length = 1) = false := decide_eq_false hl
    rw [partB]; simp [e1, e2, e3, e4, e5, e6, hd]
   ·have hl : l.length = 1 := by (try simp only [bne_iff_ne, ne_eq, bne_eq_false_iff_eq, beq_iff_eq, beq_eq_false_iff_ne, decide_eq_true_eq, decide_eq_false_iff_not, Bool.not_eq_eq_eq_not, Int.natCast_inj, Int.ofNat_lt, Int.ofNat_le] at h0); omega
    repeat (first | (with_reducible first | refine Stp.up ?_ | refine fun (K : AK) hK => ?_ | (refine hK _ ?_; clear hK K)) | simp only [go_sem, h0] | with_reducible refine wA ?_ | clear hK K)
    refine awp_loopF (ι := Nat) (fun i => [(1, .ptr 0 0 3 0 0), (2, .v (.bool false)), (3, .v (.int .i64 i))]) (fun _ => [some ⟨25, 3, false, [[.v (.int .i64 k), .v (.string s), .slc 3 (l.map encE) l.length]]⟩]) (fun i => l.length - i) (fun i => i ≤ l.length ∧ ∀ j (h : j < l.length), j < i → allPart l[j] = true) 0 ⟨by omega, fun j _ h => absurd h (by omega)⟩ ?_ ?_
    ·(refine wk_mk ?_ ?_ ?_ <;> simp only [frm, List.foldl_cons, List.foldl_nil, List.replicate_succ, List.replicate_zero, WkT, WkO, AV.v.injEq, Value.int.injEq, Value.bool.injEq, Value.string.injEq, AV.vec.injEq, AV.ptr.injEq, true_or, or_true, false_or, or_false, AObj.mk.injEq, forall_eq_apply_imp_iff, forall_eq, forall_eq', go_sem])
     rfl
    ·rintro i ⟨hi, hP⟩ K hK
     simp only [frm, List.foldl_cons, List.foldl_nil, List.replicate_succ, List.replicate_zero, go_sem]
     repeat (first | (with_reducible first | refine Stp.up ?_ | refine fun (K : AK) hK => ?_ | (refine hK _ ?_; clear hK K)) | simp only [go_sem] | with_reducible refine wA ?_ | clear hK K)
     refine AIf.part (fun h => ?_) (fun h => ?_)
     ·have hlt : i < l.length := by (try simp only [bne_iff_ne, ne_eq, bne_eq_false_iff_eq, beq_iff_eq, beq_eq_false_iff_ne, decide_eq_true_eq, decide_eq_false_iff_not, Bool.not_eq_eq_eq_not, Int.natCast_inj, Int.ofNat_lt, Int.ofNat_le] at h); omega
      have eW := wrap_succ (k := i) (by omega)
      have eG := getD_map encE l i [] hlt
      have C := hsub l[i] (List.getElem_mem hlt)
      simp only [encE_eq] at C eG
      repeat (first | (with_reducible first | refine Stp.up ?_ | refine fun (K : AK) hK => ?_ | (refine hK _ ?_; clear hK K)) | simp only [go_sem, eG] | with_reducible refine wA ?_ | clear hK K)
      refine ACallV.one C ?_
      repeat (first | (with_reducible first | refine Stp.up ?_ | refine fun (K : AK) hK => ?_ | (refine hK _ ?_; clear hK K)) | simp only [go_sem, eG] | with_reducible refine wA ?_ | clear hK K)
      refine AIf.part (fun h5 => ?_) (fun h5 => ?_)
      ·repeat (first | (with_reducible first | refine Stp.up ?_ | refine fun (K : AK) hK => ?_ | (refine hK _ ?_; clear hK K)) | simp only [go_sem, eW] | with_reducible refine wA ?_ | clear hK K)
       exact LNext.mk (i + 1) ⟨by omega, fun j hj h3 => (by
        rcases Nat.lt_or_ge j i with r | r
        ·exact hP j hj r
        ·have e : j = i := by omega
         subst e
         exact h5)⟩ (by omega) (by (refine wk_mk ?_ ?_ ?_ <;> simp only [frm, List.foldl_cons, List.foldl_nil, List.replicate_succ, List.replicate_zero, WkT, WkO, AV.v.injEq, Value.int.injEq, Value.bool.injEq, Value.string.injEq, AV.vec.injEq, AV.ptr.injEq, true_or, or_true, false_or, or_false, AObj.mk.injEq, forall_eq_apply_imp_iff, forall_eq, forall_eq', go_sem]))
      ·repeat (first | (with_reducible first | refine Stp.up ?_ | refine fun (K : AK) hK => ?_ | (refine hK _ ?_; clear hK K)) | simp only [go_sem, h5] | with_reducible refine wA ?_ | clear hK K)
       have e : l.all allPart = false := by
        rw [← Bool.not_eq_true, List.all_eq_true]
        intro hh
        rw [hh _ (List.getElem_mem hlt)] at h5; cases h5
       rw [e, Bool.and_false]
     ·have he : i = l.length := by (try simp only [bne_iff_ne, ne_eq, bne_eq_false_iff_eq, beq_iff_eq, beq_eq_false_iff_ne, decide_eq_true_eq, decide_eq_false_iff_not, Bool.not_eq_eq_eq_not, Int.natCast_inj, Int.ofNat_lt, Int.ofNat_le] at h); omega
      have e : l.all allPart = true := List.all_eq_true.2 (fun y hy => by
       obtain ⟨j, hj, rfl⟩ := List.getElem_of_mem hy
       exact hP j hj (by omega))
      repeat (first | (with_reducible first | refine Stp.up ?_ | refine fun (K : AK) hK => ?_ | (refine hK _ ?_; clear hK K)) | simp only [go_sem] | with_reducible refine wA ?_ | clear hK K)
      rw [e, noB_is, Bool.and_true, partB]
      simp only [e1, e2, e3, e4, e5, e6]
      have hd : decide (l.length = 1) = true := decide_eq_true (by omega)
      simp [hd]
  ·have e1 : (k == 1) = false := by rw [← Bool.not_eq_true, beq_iff_eq]; omega
   have e2 : (k == 2) = false := by rw [← Bool.not_eq_true, beq_iff_eq]; omega
   have e3 : (k == 3) = false := by rw [← Bool.not_eq_true, beq_iff_eq]; omega
   have e4 : (k == 4) = false := by rw [← Bool.not_eq_true, beq_iff_eq]; omega
   have e5 : (k == 5) = true := by rw [beq_iff_eq]; omega
   have e6 : (k == 6) = false := by rw [← Bool.not_eq_true, beq_iff_eq]; omega
   repeat (first | (with_reducible first | refine Stp.up ?_ | refine fun (K : AK) hK => ?_ | (refine hK _ ?_; clear hK K)) | simp only [go_sem, e1, e2, e3, e4, e5, e6] | with_reducible refine wA ?_ | clear hK K)
   refine AIf.part (fun h0 => ?_) (fun h0 => ?_)
   ·have hl : l.length ≠ 1 := by (try simp only [bne_iff_ne, ne_eq, bne_eq_false_iff_eq, beq_iff_eq, beq_eq_false_iff_ne, decide_eq_true_eq, decide_eq_false_iff_not, Bool.not_eq_eq_eq_not, Int.natCast_inj, Int.ofNat_lt, Int.ofNat_le] at h0); omega
    repeat (first | (with_reducible first | refine Stp.up ?_ | refine fun (K : AK) hK => ?_ | (refine hK _ ?_; clear hK K)) | simp only [go_sem, h0] | with_reducible refine wA ?_ | clear hK K)
    have hd : decide (l.length = 1) = false := decide_eq_false hl
    rw [partB]; simp [e1, e2, e3, e4, e5, e6, hd]
   ·have hl : l.length = 1 := by (try simp only [bne_iff_ne, ne_eq, bne_eq_false_iff_eq, beq_iff_eq, beq_eq_false_iff_ne, decide_eq_true_eq, decide_eq_false_iff_not, Bool.not_eq_eq_eq_not, Int.natCast_inj, Int.ofNat_lt, Int.ofNat_le] at h0); omega
    repeat (first | (with_reducible first | refine Stp.up ?_ | refine fun (K : AK) hK => ?_ | (refine hK _ ?_; clear hK K)) | simp only [go_sem, h0] | with_reducible refine wA ?_ | clear hK K)
    refine awp_loopF (ι := Nat) (fun i => [(1, .ptr 0 0 3 0 0), (2, .v (.bool false)), (3, .v (.int .i64 i))]) (fun _ => [some ⟨25, 3, false, [[.v (.int .i64 k), .v (.string s), .slc 3 (l.map encE) l.length]]⟩]) (fun i => l.length - i) (fun i => i ≤ l.length ∧ ∀ j (h : j < l.length), j < i → allPart l[j] = true) 0 ⟨by omega, fun j _ h => absurd h (by omega)⟩ ?_ ?_
    ·(refine wk_mk ?_ ?_ ?_ <;> simp only [frm, List.foldl_cons, List.foldl_nil, List.replicate_succ, List.replicate_zero, WkT, WkO, AV.v.injEq, Value.int.injEq, Value.bool.injEq, Value.string.injEq, AV.vec.injEq, AV.ptr.injEq, true_or, or_true, false_or, or_false, AObj.mk.injEq, forall_eq_apply_imp_iff, forall_eq, forall_eq', go_sem])
     rfl
    ·rintro i ⟨hi, hP⟩ K hK
     simp only [frm, List.foldl_cons, List.foldl_nil, List.replicate_succ, List.replicate_zero, go_sem]
     repeat (first | (with_reducible first | refine Stp.up ?_ | refine fun (K : AK) hK => ?_ | (refine hK _ ?_; clear hK K)) | simp only [go_sem] | with_reducible refine wA ?_ | clear hK K)
     refine AIf.part (fun h => ?_) (fun h => ?_)
     ·have hlt : i < l.length := by (try simp only [bne_iff_ne, ne_eq, bne_eq_false_iff_eq, beq_iff_eq, beq_eq_false_iff_ne, decide_eq_true_eq, decide_eq_false_iff_not, Bool.not_eq_eq_eq_not, Int.natCast_inj, Int.ofNat_lt, Int.ofNat_le] at h); omega
      have eW := wrap_succ (k := i) (by omega)
      have eG := getD_map encE l i [] hlt
      have C := hsub l[i] (List.getElem_mem hlt)
      simp only [encE_eq] at C eG
      repeat (first | (with_reducible first | refine Stp.up ?_ | refine fun (K : AK) hK => ?_ | (refine hK _ ?_; clear hK K)) | simp only [go_sem, eG] | with_reducible refine wA ?_ | clear hK K)
      refine ACallV.one C ?_
      repeat (first | (with_reducible first | refine Stp.up ?_ | refine fun (K : AK) hK => ?_ | (refine hK _ ?_; clear hK K)) | simp only [go_sem, eG] | with_reducible refine wA ?_ | clear hK K)
      refine AIf.part (fun h5 => ?_) (fun h5 => ?_)
      ·repeat (first | (with_reducible first | refine Stp.up ?_ | refine fun (K : AK) hK => ?_ | (refine hK _ ?_; clear hK K)) | simp only [go_sem, eW] | with_reducible refine wA ?_ | clear hK K)
       exact LNext.mk (i + 1) ⟨by omega, fun j hj h3 => (by
        rcases Nat.lt_or_ge j i with r | r
        ·exact hP j hj r
        ·have e : j = i := by omega
         subst e
         exact h5)⟩ (by omega) (by (refine wk_mk ?_ ?_ ?_ <;> simp only [frm, List.foldl_cons, List.foldl_nil, List.replicate_succ, List.replicate_zero, WkT, WkO, AV.v.injEq, Value.int.injEq, Value.bool.injEq, Value.string.injEq, AV.vec.injEq, AV.ptr.injEq, true_or, or_true, false_or, or_false, AObj.mk.injEq, forall_eq_apply_imp_iff, forall_eq, forall_eq', go_sem]))
      ·repeat (first | (with_reducible first | refine Stp.up ?_ | refine fun (K : AK) hK => ?_ | (refine hK _ ?_; clear hK K)) | simp only [go_sem, h5] | with_reducible refine wA ?_ | clear hK K)
       have e : l.all allPart = false := by
        rw [← Bool.not_eq_true, List.all_eq_true]
        intro hh
        rw [hh _ (List.getElem_mem hlt)] at h5; cases h5
       rw [e, Bool.and_false]
     ·have he : i = l.length := by (try simp only [bne_iff_ne, ne_eq, bne_eq_false_iff_eq, beq_iff_eq, beq_eq_false_iff_ne, decide_eq_true_eq, decide_eq_false_iff_not, Bool.not_eq_eq_eq_not, Int.natCast_inj, Int.ofNat_lt, Int.ofNat_le] at h); omega
      have e : l.all allPart = true := List.all_eq_true.2 (fun y hy => by
       obtain ⟨j, hj, rfl⟩ := List.getElem_of_mem hy
       exact hP j hj (by omega))
      repeat (first | (with_reducible first | refine Stp.up ?_ | refine fun (K : AK) hK => ?_ | (refine hK _ ?_; clear hK K)) | simp only [go_sem] | with_reducible refine wA ?_ | clear hK K)
      rw [e, noB_is, Bool.and_true, partB]
      simp only [e1, e2, e3, e4, e5, e6]
      have hd : decide (l.length = 1) = true := decide_eq_true (by omega)
      simp [hd]
  ·have e1 : (k == 1) = false := by rw [← Bool.not_eq_true, beq_iff_eq]; omega
   have e2 : (k == 2) = false := by rw [← Bool.not_eq_true, beq_iff_eq]; omega
   have e3 : (k == 3) = false := by rw [← Bool.not_eq_true, beq_iff_eq]; omega
   have e4 : (k == 4) = false := by rw [← Bool.not_eq_true, beq_iff_eq]; omega
   have e5 : (k == 5) = false := by rw [← Bool.not_eq_true, beq_iff_eq]; omega
   have e6 : (k == 6) = true := by rw [beq_iff_eq]; omega
   repeat (first | (with_reducible first | refine Stp.up ?_ | refine fun (K : AK) hK => ?_ | (refine hK _ ?_; clear hK K)) | simp only [go_sem, e1, e2, e3, e4, e5, e6] | with_reducible refine wA ?_ | clear hK K)
   refine AIf.part (fun h0 => ?_) (fun h0 => ?_)
   ·have hl : l.length ≠ 1 := by (try simp only [bne_iff_ne, ne_eq, bne_eq_false_iff_eq, beq_iff_eq, beq_eq_false_iff_ne, decide_eq_true_eq, decide_eq_false_iff_not, Bool.not_eq_eq_eq_not, Int.natCast_inj, Int.ofNat_lt, Int.ofNat_le] at h0); omega
    repeat (first | (with_reducible first | refine Stp.up ?_ | refine fun (K : AK) hK => ?_ | (refine hK _ ?_; clear hK K)) | simp only [go_sem, h0] | with_reducible refine wA ?_ | clear hK K)
    have hd : decide (l.length = 1) = false := decide_eq_false hl
    rw [partB]; simp [e1, e2, e3, e4, e5, e6, hd]
   ·have hl : l.length = 1 := by (try simp only [bne_iff_ne, ne_eq, bne_eq_false_iff_eq, beq_iff_eq, beq_eq_false_iff_ne, decide_eq_true_eq, decide_eq_false_iff_not, Bool.not_eq_eq_eq_not, Int.natCast_inj, Int.ofNat_lt, Int.ofNat_le] at h0); omega
    repeat (first | (with_reducible first | refine Stp.up ?_ | refine fun (K : AK) hK => ?_ | (refine hK _ ?_; clear hK K)) | simp only [go_sem, h0] | with_reducible refine wA ?_ | clear hK K)
    refine awp_loopF (ι := Nat) (fun i => [(1, .ptr 0 0 3 0 0), (2, .v (.bool false)), (3, .v (.int .i64 i))]) (fun _ => [some ⟨25, 3, false, [[.v (.int .i64 k), .v (.string s), .slc 3 (l.map encE) l.length]]⟩]) (fun i => l.length - i) (fun i => i ≤ l.length ∧ ∀ j (h : j < l.length), j < i → allPart l[j] = true) 0 ⟨by omega, fun j _ h => absurd h (by omega)⟩ ?_ ?_
    ·(refine wk_mk ?_ ?_ ?_ <;> simp only [frm, List.foldl_cons, List.foldl_nil, List.replicate_succ, List.replicate_zero, WkT, WkO, AV.v.injEq, Value.int.injEq, Value.bool.injEq, Value.string.injEq, AV.vec.injEq, AV.ptr.injEq, true_or, or_true, false_or, or_false, AObj.mk.injEq, forall_eq_apply_imp_iff, forall_eq, forall_eq', go_sem])
     rfl
    ·rintro i ⟨hi, hP⟩ K hK
     simp only [frm, List.foldl_cons, List.foldl_nil, List.replicate_succ, List.replicate_zero, go_sem]
     repeat (first | (with_reducible first | refine Stp.up ?_ | refine fun (K : AK) hK => ?_ | (refine hK _ ?_; clear hK K)) | simp only [go_sem] | with_reducible refine wA ?_ | clear hK K)
     refine AIf.part (fun h => ?_) (fun h => ?_)
     ·have hlt : i < l.length := by (try simp only [bne_iff_ne, ne_eq, bne_eq_false_iff_eq, beq_iff_eq, beq_eq_false_iff_ne, decide_eq_true_eq, decide_eq_false_iff_not, Bool.not_eq_eq_eq_not, Int.natCast_inj, Int.ofNat_lt, Int.ofNat_le] at h); omega
      have eW := wrap_succ (k := i) (by omega)
      have eG := getD_map encE l i [] hlt
      have C := hsub l[i] (List.getElem_mem hlt)
      simp only [encE_eq] at C eG
      repeat (first | (with_reducible first | refine Stp.up ?_ | refine fun (K : AK) hK => ?_ | (refine hK _ ?_; clear hK K)) | simp only [go_sem, eG] | with_reducible refine wA ?_ | clear hK K)
      refine ACallV.one C ?_
      repeat (first | (with_reducible first | refine Stp.up ?_ | refine fun (K : AK) hK => ?_ | (refine hK _ ?_; clear hK K)) | simp only [go_sem, eG] | with_reducible refine wA ?_ | clear hK K)
      refine AIf.part (fun h5 => ?_) (fun h5 => ?_)
      ·repeat (first | (with_reducible first | refine Stp.up ?_ | refine fun (K : AK) hK => ?_ | (refine hK _ ?_; clear hK K)) | simp only [go_sem, eW] | with_reducible refine wA ?_ | clear hK K)
       exact LNext.mk (i + 1) ⟨by omega, fun j hj h3 => (by
        rcases Nat.lt_or_ge j i with r | r
        ·exact hP j hj r
        ·have e : j = i := by omega
         subst e
         exact h5)⟩ (by omega) (by (refine wk_mk ?_ ?_ ?_ <;> simp only [frm, List.foldl_cons, List.foldl_nil, List.replicate_succ, List.replicate_zero, WkT, WkO, AV.v.injEq, Value.int.injEq, Value.bool.injEq, Value.string.injEq, AV.vec.injEq, AV.ptr.injEq, true_or, or_true, false_or, or_false, AObj.mk.injEq, forall_eq_apply_imp_iff, forall_eq, forall_eq', go_sem]))
      ·repeat (first | (with_reducible first | refine Stp.up ?_ | refine fun (K : AK) hK => ?_ | (refine hK _ ?_; clear hK K)) | simp only [go_sem, h5] | with_reducible refine wA ?_ | clear hK K)
       have e : l.all allPart = false := by
        rw [← Bool.not_eq_true, List.all_eq_true]
        intro hh
        rw [hh _ (List.getElem_mem hlt)] at h5; cases h5
       rw [e, Bool.and_false]
     ·have he : i = l.length := by (try simp only [bne_iff_ne, ne_eq, bne_eq_false_iff_eq, beq_iff_eq, beq_eq_false_iff_ne, decide_eq_true_eq, decide_eq_false_iff_not, Bool.not_eq_eq_eq_not, Int.natCast_inj, Int.ofNat_lt, Int.ofNat_le] at h); omega
      have e : l.all allPart = true := List.all_eq_true.2 (fun y hy => by
       obtain ⟨j, hj, rfl⟩ := List.getElem_of_mem hy
       exact hP j hj (by omega))
      repeat (first | (with_reducible first | refine Stp.up ?_ | refine fun (K : AK) hK => ?_ | (refine hK _ ?_; clear hK K)) | simp only [go_sem] | with_reducible refine wA ?_ | clear hK K)
      rw [e, noB_is, Bool.and_true, partB]
      simp only [e1, e2, e3, e4, e5, e6]
      have hd : decide (l.length = 1) = true := decide_eq_true (by omega)
      simp [hd]
  ·have e1 : (k == 1) = false := by rw [← Bool.not_eq_true, beq_iff_eq]; omega
   have e2 : (k == 2) = false := by rw [← Bool.not_eq_true, beq_iff_eq]; omega
   have e3 : (k == 3) = false := by rw [← Bool.not_eq_true, beq_iff_eq]; omega
   have e4 : (k == 4) = false := by rw [← Bool.not_eq_true, beq_iff_eq]; omega
   have e5 : (k == 5) = false := by rw [← Bool.not_eq_true, beq_iff_eq]; omega
   have e6 : (k == 6) = false := by rw [← Bool.not_eq_true, beq_iff_eq]; omega
   repeat (first | (with_reducible first | refine Stp.up ?_ | refine fun (K : AK) hK => ?_ | (refine hK _ ?_; clear hK K)) | simp only [go_sem, e1, e2, e3, e4, e5, e6] | with_reducible refine wA ?_ | clear hK K)
   rw [partB]; simp [e1, e2, e3, e4, e5, e6]
set_option maxRecDepth 100000 in
theorem right07_c (x : Ex) (h1 : (exParts x).length ≤ 1000000) (hz : ∀ z, z ∈ exParts x → z.kids.length ≤ 1000000 ∧ z.label.size ≤ 1000000000000000) : Call1 Tryd.prog 44 [.agg (encE x)] (.v (.bool (exRight x))) := by
 have S := size07_c x h1
 have T := part07_c x hz
 have e : exRight x = (decide ((exParts x).length ≤ 24) && allPart x) := rfl
 rw [e]
 simp only [encE_eq] at S T ⊢
 (refine Call1.enter Tryd.func44 rfl (by kernel_rfl) (by kernel_rfl) rfl (by first | rfl | (simp only [go_sem, Bool.and_self, Bool.and_true, Bool.true_and])) (by first | rfl | (simp only [go_sem, Bool.and_self, Bool.and_true, Bool.true_and])) ?_; simp only [Tryd.ntmps44, Tryd.results44, List.length_cons, List.length_nil, Nat.reduceAdd, Nat.reduceSub, List.replicate_succ, List.replicate_zero, List.cons_append, List.nil_append])
 repeat (first | (with_reducible first | refine Stp.up ?_ | refine fun (K : AK) hK => ?_ | (refine hK _ ?_; clear hK K)) | simp only [go_sem] | clear hK K)
 refine ACallV.one S ?_
 repeat (first | (with_reducible first | refine Stp.up ?_ | refine fun (K : AK) hK => ?_ | (refine hK _ ?_; clear hK K)) | simp only [go_sem] | clear hK K)
 refine AIf.part (fun h => ?_) (fun h => ?_)
 ·repeat (first | (with_reducible first | refine Stp.up ?_ | refine fun (K : AK) hK => ?_ | (refine hK _ ?_; clear hK K)) | simp only [go_sem, h] | clear hK K)
  refine ACallV.one T ?_
  repeat (first | (with_reducible first | refine Stp.up ?_ | refine fun (K : AK) hK => ?_ | (refine hK _ ?_; clear hK K)) | simp only [go_sem, h] | clear hK K)
  have hd : decide ((exParts x).length ≤ 24) = true := by (try simp only [decide_eq_true_eq, decide_eq_false_iff_not] at h); exact decide_eq_true (by omega)
  rw [hd, Bool.true_and]
 ·repeat (first | (with_reducible first | refine Stp.up ?_ | refine fun (K : AK) hK => ?_ | (refine hK _ ?_; clear hK K)) | simp only [go_sem, h, Go.undef] | clear hK K)
  have hd : decide ((exParts x).length ≤ 24) = false := by (try simp only [decide_eq_true_eq, decide_eq_false_iff_not] at h); exact decide_eq_false (by omega)
  rw [hd, Bool.false_and]
end Go.Proofs.YtmdkgajjekbanaaDoor
