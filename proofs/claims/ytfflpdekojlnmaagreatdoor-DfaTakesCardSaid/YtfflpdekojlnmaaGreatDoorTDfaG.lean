/- what an automaton tells: steps, ends, words. -/
import Derived.Test.YtfflpdekojlnmaaGreatDoorTDfaF
set_option linter.unusedSimpArgs false
set_option linter.unusedVariables false
namespace Go.Proofs.YtfflpdekojlnmaaGreatDoor
open Go.RowKit

def takesX (A : ADt) (s : Int) : Bool := decide (0 ≤ s) && decide (s < A.rows.length) && A.ends.getD s.toNat false
def stepX (A : ADt) (s : Int) (l : ByteArray) : Option Nat := if 0 ≤ s ∧ s < A.rows.length then look (A.rows.getD s.toNat []) l else none
def stepT (o : Option Nat) : AV := .tup [.v (.int .i64 ((o.getD 0 : Nat) : Int)), .v (.bool o.isSome)]
set_option maxRecDepth 100000 in
set_option maxHeartbeats 4000000 in
theorem dtakes_c (A : ADt) (hE : A.ends.length = A.rows.length) (s : Int) : Call1 Tryz.prog 29 [.vp (autoV A), .v (.int .i64 s)] (.v (.bool (takesX A s))) := by
 have CZ := dlen_c A
 simp only [autoV, gV, strsA, List.cons_append, List.nil_append, hE] at CZ ⊢
 by_cases h0 : 0 ≤ s
 ·obtain ⟨k, rfl⟩ : ∃ k : Nat, s = k := ⟨s.toNat, by omega⟩
  have e1 : decide (0 ≤ (k : Int)) = true := decide_eq_true h0
  by_cases h1 : k < A.rows.length
  ·have e2 : decide ((k : Int) < (A.rows.length : Int)) = true := decide_eq_true (by omega)
   have e3 : takesX A k = A.ends.getD k false := by rw [takesX, e1, e2]; rfl
   have eG : (A.ends.map (fun b => [AV.v (.bool b)])).getD k [] = [.v (.bool (A.ends.getD k false))] := by
    rw [List.getD_eq_getElem?_getD, List.getElem?_map, List.getElem?_eq_getElem (by omega), List.getD_eq_getElem?_getD, List.getElem?_eq_getElem (by omega)]; rfl
   rw [e3]
   (refine Call1.enter Tryz.func29 rfl (by kernel_rfl) (by kernel_rfl) rfl (by first | rfl | (simp only [go_sem, Bool.and_self, Bool.and_true, Bool.true_and])) (by first | rfl | (simp only [go_sem, Bool.and_self, Bool.and_true, Bool.true_and])) ?_; simp only [Tryz.ntmps29, Tryz.results29, List.length_cons, List.length_nil, Nat.reduceAdd, Nat.reduceSub, List.replicate_succ, List.replicate_zero, List.cons_append, List.nil_append])
   repeat (first | (with_reducible first | refine Stp.up ?_ | refine fun (K : AK) hK => ?_ | (refine hK _ ?_; clear hK K)) | simp only [go_sem, e1] | with_reducible refine wA ?_ | clear hK K)
   refine ACallV.one CZ ?_
   repeat (first | (with_reducible first | refine Stp.up ?_ | refine fun (K : AK) hK => ?_ | (refine hK _ ?_; clear hK K)) | simp only [go_sem, e2, eG] | with_reducible refine wA ?_ | clear hK K)
  ·have e2 : decide ((k : Int) < (A.rows.length : Int)) = false := decide_eq_false (by omega)
   have e3 : takesX A k = false := by rw [takesX, e2]; simp
   rw [e3]
   (refine Call1.enter Tryz.func29 rfl (by kernel_rfl) (by kernel_rfl) rfl (by first | rfl | (simp only [go_sem, Bool.and_self, Bool.and_true, Bool.true_and])) (by first | rfl | (simp only [go_sem, Bool.and_self, Bool.and_true, Bool.true_and])) ?_; simp only [Tryz.ntmps29, Tryz.results29, List.length_cons, List.length_nil, Nat.reduceAdd, Nat.reduceSub, List.replicate_succ, List.replicate_zero, List.cons_append, List.nil_append])
   repeat (first | (with_reducible first | refine Stp.up ?_ | refine fun (K : AK) hK => ?_ | (refine hK _ ?_; clear hK K)) | simp only [go_sem, e1] | with_reducible refine wA ?_ | clear hK K)
   refine ACallV.one CZ ?_
   repeat (first | (with_reducible first | refine Stp.up ?_ | refine fun (K : AK) hK => ?_ | (refine hK _ ?_; clear hK K)) | simp only [go_sem, e2] | with_reducible refine wA ?_ | clear hK K)
 ·have e1 : decide (0 ≤ s) = false := decide_eq_false h0
  have e3 : takesX A s = false := by rw [takesX, e1]; rfl
  rw [e3]
  (refine Call1.enter Tryz.func29 rfl (by kernel_rfl) (by kernel_rfl) rfl (by first | rfl | (simp only [go_sem, Bool.and_self, Bool.and_true, Bool.true_and])) (by first | rfl | (simp only [go_sem, Bool.and_self, Bool.and_true, Bool.true_and])) ?_; simp only [Tryz.ntmps29, Tryz.results29, List.length_cons, List.length_nil, Nat.reduceAdd, Nat.reduceSub, List.replicate_succ, List.replicate_zero, List.cons_append, List.nil_append])
  repeat (first | (with_reducible first | refine Stp.up ?_ | refine fun (K : AK) hK => ?_ | (refine hK _ ?_; clear hK K)) | simp only [go_sem, e1] | with_reducible refine wA ?_ | clear hK K)
set_option maxRecDepth 100000 in
set_option maxHeartbeats 4000000 in
theorem dstep_c (A : ADt) (s : Int) (l : ByteArray) : Call1 Tryz.prog 30 [.vp (autoV A), .v (.int .i64 s), .v (.string l)] (stepT (stepX A s l)) := by
 have CZ := dlen_c A
 simp only [autoV, gV, strsA, List.cons_append, List.nil_append] at *
 by_cases h0 : 0 ≤ s
 ·obtain ⟨k, rfl⟩ : ∃ k : Nat, s = k := ⟨s.toNat, by omega⟩
  have e1 : decide (0 ≤ (k : Int)) = true := decide_eq_true h0
  by_cases h1 : k < A.rows.length
  ·have e2 : decide ((k : Int) < (A.rows.length : Int)) = true := decide_eq_true (by omega)
   have e3 : stepX A k l = look A.rows[k] l := by
    rw [stepX, if_pos ⟨h0, by omega⟩, Int.toNat_natCast, List.getD_eq_getElem?_getD, List.getElem?_eq_getElem h1]; rfl
   have eG : (A.rows.map (fun r => [AV.mp (mRow r)])).getD k [] = [.mp (mRow A.rows[k])] := by
    rw [List.getD_eq_getElem?_getD, List.getElem?_map, List.getElem?_eq_getElem h1]; rfl
   have eA := aGet_r l A.rows[k]
   rw [e3]
   cases hl : look A.rows[k] l with
   | none =>
    rw [hl] at eA
    simp only [Option.map_none, stepT, Option.getD_none, Option.isSome_none] at eA ⊢
    (refine Call1.enter Tryz.func30 rfl (by kernel_rfl) (by kernel_rfl) rfl (by first | rfl | (simp only [go_sem, Bool.and_self, Bool.and_true, Bool.true_and])) (by first | rfl | (simp only [go_sem, Bool.and_self, Bool.and_true, Bool.true_and])) ?_; simp only [Tryz.ntmps30, Tryz.results30, List.length_cons, List.length_nil, Nat.reduceAdd, Nat.reduceSub, List.replicate_succ, List.replicate_zero, List.cons_append, List.nil_append])
    repeat (first | (with_reducible first | refine Stp.up ?_ | refine fun (K : AK) hK => ?_ | (refine hK _ ?_; clear hK K)) | simp only [go_sem, e1] | with_reducible refine wA ?_ | clear hK K)
    refine ACallV.one CZ ?_
    repeat (first | (with_reducible first | refine Stp.up ?_ | refine fun (K : AK) hK => ?_ | (refine hK _ ?_; clear hK K)) | simp only [go_sem, e2, eG, eA] | with_reducible refine wA ?_ | clear hK K)
    (refine AFz.of 40 rfl ?_; simp only [go_sem])
   | some t =>
    rw [hl] at eA
    simp only [Option.map_some, stepT, Option.getD_some, Option.isSome_some] at eA ⊢
    (refine Call1.enter Tryz.func30 rfl (by kernel_rfl) (by kernel_rfl) rfl (by first | rfl | (simp only [go_sem, Bool.and_self, Bool.and_true, Bool.true_and])) (by first | rfl | (simp only [go_sem, Bool.and_self, Bool.and_true, Bool.true_and])) ?_; simp only [Tryz.ntmps30, Tryz.results30, List.length_cons, List.length_nil, Nat.reduceAdd, Nat.reduceSub, List.replicate_succ, List.replicate_zero, List.cons_append, List.nil_append])
    repeat (first | (with_reducible first | refine Stp.up ?_ | refine fun (K : AK) hK => ?_ | (refine hK _ ?_; clear hK K)) | simp only [go_sem, e1] | with_reducible refine wA ?_ | clear hK K)
    refine ACallV.one CZ ?_
    repeat (first | (with_reducible first | refine Stp.up ?_ | refine fun (K : AK) hK => ?_ | (refine hK _ ?_; clear hK K)) | simp only [go_sem, e2, eG, eA] | with_reducible refine wA ?_ | clear hK K)
    (refine AFz.of 40 rfl ?_; simp only [go_sem])
  ·have e2 : decide ((k : Int) < (A.rows.length : Int)) = false := decide_eq_false (by omega)
   have e3 : stepX A k l = none := by rw [stepX, if_neg (by omega)]
   rw [e3]
   simp only [stepT, Option.getD_none, Option.isSome_none]
   (refine Call1.enter Tryz.func30 rfl (by kernel_rfl) (by kernel_rfl) rfl (by first | rfl | (simp only [go_sem, Bool.and_self, Bool.and_true, Bool.true_and])) (by first | rfl | (simp only [go_sem, Bool.and_self, Bool.and_true, Bool.true_and])) ?_; simp only [Tryz.ntmps30, Tryz.results30, List.length_cons, List.length_nil, Nat.reduceAdd, Nat.reduceSub, List.replicate_succ, List.replicate_zero, List.cons_append, List.nil_append])
   repeat (first | (with_reducible first | refine Stp.up ?_ | refine fun (K : AK) hK => ?_ | (refine hK _ ?_; clear hK K)) | simp only [go_sem, e1] | with_reducible refine wA ?_ | clear hK K)
   refine ACallV.one CZ ?_
   repeat (first | (with_reducible first | refine Stp.up ?_ | refine fun (K : AK) hK => ?_ | (refine hK _ ?_; clear hK K)) | simp only [go_sem, e2] | with_reducible refine wA ?_ | clear hK K)
   (refine AFz.of 40 rfl ?_; simp only [go_sem])
 ·have e1 : decide (0 ≤ s) = false := decide_eq_false h0
  have e3 : stepX A s l = none := by rw [stepX, if_neg (by omega)]
  rw [e3]
  simp only [stepT, Option.getD_none, Option.isSome_none]
  (refine Call1.enter Tryz.func30 rfl (by kernel_rfl) (by kernel_rfl) rfl (by first | rfl | (simp only [go_sem, Bool.and_self, Bool.and_true, Bool.true_and])) (by first | rfl | (simp only [go_sem, Bool.and_self, Bool.and_true, Bool.true_and])) ?_; simp only [Tryz.ntmps30, Tryz.results30, List.length_cons, List.length_nil, Nat.reduceAdd, Nat.reduceSub, List.replicate_succ, List.replicate_zero, List.cons_append, List.nil_append])
  repeat (first | (with_reducible first | refine Stp.up ?_ | refine fun (K : AK) hK => ?_ | (refine hK _ ?_; clear hK K)) | simp only [go_sem, e1] | with_reducible refine wA ?_ | clear hK K)
  (refine AFz.of 40 rfl ?_; simp only [go_sem])
/-! ### words -/
theorem gTakes_cons (rows : List LRow) (ends : List Bool) (s : Nat) (l : ByteArray) (w : List ByteArray) : gTakes rows ends s (l :: w) = match look (rows.getD s []) l with
 | some t => gTakes rows ends t w
 | none => false := by
 rw [gTakes, gRun]
 cases look (rows.getD s []) l <;> rfl
set_option maxRecDepth 100000 in
set_option maxHeartbeats 4000000 in
theorem dword_c (A : ADt) (ok : AOk A) (w : List ByteArray) (hw : w.length ≤ 1000000) : Call1 Tryz.prog 12 [.vp (autoV A), strsA w] (.v (.bool (gTakes A.rows A.ends 0 w))) := by
 have CS := fun (s : Int) l => dstep_c A s l
 have CT := fun (s : Int) => dtakes_c A ok.ends s
 simp only [autoV, gV, strsA, List.cons_append, List.nil_append] at *
 (refine Call1.enter Tryz.func12 rfl (by kernel_rfl) (by kernel_rfl) rfl (by first | rfl | (simp only [go_sem, Bool.and_self, Bool.and_true, Bool.true_and])) (by first | rfl | (simp only [go_sem, Bool.and_self, Bool.and_true, Bool.true_and])) ?_; simp only [Tryz.ntmps12, Tryz.results12, List.length_cons, List.length_nil, Nat.reduceAdd, Nat.reduceSub, List.replicate_succ, List.replicate_zero, List.cons_append, List.nil_append])
 repeat (first | (with_reducible first | refine Stp.up ?_ | refine fun (K : AK) hK => ?_ | (refine hK _ ?_; clear hK K)) | simp only [go_sem] | with_reducible refine wA ?_ | clear hK K)
 refine awp_loopK (ι := Nat × Nat) 12 (fun x => [(5, .v (.int .i64 x.2)), (6, .v (.bool true)), (8, .undef), (11, .v (.int .i64 x.1))]) (fun x => w.length - x.1) (fun x => x.1 ≤ w.length ∧ x.2 < A.rows.length ∧ gTakes A.rows A.ends 0 w = gTakes A.rows A.ends x.2 (w.drop x.1)) (0, 0) ⟨Nat.zero_le _, ok.pos, by rw [List.drop_zero]⟩ ?_ ?_
 ·(refine wk_mk ?_ ?_ ?_ <;> simp only [frm, List.foldl_cons, List.foldl_nil, List.replicate_succ, List.replicate_zero, WkT, WkO, AV.v.injEq, Value.int.injEq, Value.bool.injEq, Value.string.injEq, AV.vec.injEq, AV.ptr.injEq, true_or, or_true, false_or, or_false, AObj.mk.injEq, forall_eq_apply_imp_iff, forall_eq, forall_eq', go_sem])
  all_goals rfl
 ·rintro ⟨k, s⟩ ⟨hk, hs, hg⟩ K hK
  simp only at hk hs hg
  repeat (first | (with_reducible first | refine Stp.up ?_ | refine fun (K : AK) hK => ?_ | (refine hK _ ?_; clear hK K)) | simp only [go_sem] | with_reducible refine wA ?_ | clear hK K)
  refine AIf.part (fun h => ?_) (fun h => ?_)
  ·have hlt : k < w.length := by (try simp only [bne_iff_ne, ne_eq, bne_eq_false_iff_eq, beq_iff_eq, beq_eq_false_iff_ne, decide_eq_true_eq, decide_eq_false_iff_not, Bool.not_eq_eq_eq_not, Int.natCast_inj, Int.ofNat_lt, Int.ofNat_le] at h); omega
   have eW := wrap_succ (k := k) (by omega)
   have eG := getD_map encS w k [] hlt
   rw [List.drop_eq_getElem_cons hlt, gTakes_cons] at hg
   have CK := CS (s : Int) w[k]
   have e3 : stepX A s w[k] = look (A.rows.getD s []) w[k] := by
    rw [stepX, if_pos ⟨by omega, by omega⟩, Int.toNat_natCast]
   rw [e3] at CK
   simp only [encS] at eG
   cases hl : look (A.rows.getD s []) w[k] with
   | none =>
    rw [hl] at CK hg
    simp only [stepT, Option.getD_none, Option.isSome_none] at CK hg
    repeat (first | (with_reducible first | refine Stp.up ?_ | refine fun (K : AK) hK => ?_ | (refine hK _ ?_; clear hK K)) | simp only [go_sem, eG, h] | with_reducible refine wA ?_ | clear hK K)
    refine ACallV.one CK ?_
    repeat (first | (with_reducible first | refine Stp.up ?_ | refine fun (K : AK) hK => ?_ | (refine hK _ ?_; clear hK K)) | simp only [go_sem] | with_reducible refine wA ?_ | clear hK K)
    rw [hg]
   | some t =>
    rw [hl] at CK hg
    simp only [stepT, Option.getD_some, Option.isSome_some] at CK hg
    have ht : t < A.rows.length := (ok.row _ (getD_mem hs)).2 _ (look_mem hl)
    repeat (first | (with_reducible first | refine Stp.up ?_ | refine fun (K : AK) hK => ?_ | (refine hK _ ?_; clear hK K)) | simp only [go_sem, eG, h] | with_reducible refine wA ?_ | clear hK K)
    refine ACallV.one CK ?_
    repeat (first | (with_reducible first | refine Stp.up ?_ | refine fun (K : AK) hK => ?_ | (refine hK _ ?_; clear hK K)) | simp only [go_sem, eW] | with_reducible refine wA ?_ | clear hK K)
    refine LNext.mk (k + 1, t) ⟨hlt, ht, hg⟩ (by show w.length - (k + 1) < w.length - k; omega) ?_
    (refine wk_mk ?_ ?_ ?_ <;> simp only [frm, List.foldl_cons, List.foldl_nil, List.replicate_succ, List.replicate_zero, WkT, WkO, AV.v.injEq, Value.int.injEq, Value.bool.injEq, Value.string.injEq, AV.vec.injEq, AV.ptr.injEq, true_or, or_true, false_or, or_false, AObj.mk.injEq, forall_eq_apply_imp_iff, forall_eq, forall_eq', go_sem])
  ·have hkw : k = w.length := by (try simp only [bne_iff_ne, ne_eq, bne_eq_false_iff_eq, beq_iff_eq, beq_eq_false_iff_ne, decide_eq_true_eq, decide_eq_false_iff_not, Bool.not_eq_eq_eq_not, Int.natCast_inj, Int.ofNat_lt, Int.ofNat_le] at h); omega
   have hg2 : gTakes A.rows A.ends 0 w = takesX A s := by
    rw [hg, hkw, List.drop_length, takesX, decide_eq_true (by omega), decide_eq_true (by omega)]; rfl
   repeat (first | (with_reducible first | refine Stp.up ?_ | refine fun (K : AK) hK => ?_ | (refine hK _ ?_; clear hK K)) | simp only [go_sem] | with_reducible refine wA ?_ | clear hK K)
   refine ACallV.one (CT s) ?_
   repeat (first | (with_reducible first | refine Stp.up ?_ | refine fun (K : AK) hK => ?_ | (refine hK _ ?_; clear hK K)) | simp only [go_sem] | with_reducible refine wA ?_ | clear hK K)
   rw [hg2]
end Go.Proofs.YtfflpdekojlnmaaGreatDoor
