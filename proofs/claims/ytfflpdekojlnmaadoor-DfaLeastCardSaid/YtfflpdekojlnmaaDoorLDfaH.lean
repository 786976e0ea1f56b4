/- what an automaton tells: steps, ends, words. -/
import Derived.Test.YtfflpdekojlnmaaDoorLDfaF
set_option linter.unusedSimpArgs false
set_option linter.unusedVariables false
namespace Go.Proofs.YtfflpdekojlnmaaDoor
open Go.RowKit

def takesX (A : ADt) (s : Int) : Bool := decide (0 ≤ s) && decide (s < A.rows.length) && A.ends.getD s.toNat false
def stepX (A : ADt) (s : Int) (l : ByteArray) : Option Nat := if 0 ≤ s ∧ s < A.rows.length then look (A.rows.getD s.toNat []) l else none
def stepT (o : Option Nat) : AV := .tup [.v (.int .i64 ((o.getD 0 : Nat) : Int)), .v (.bool o.isSome)]
set_option maxRecDepth 100000 in
set_option maxHeartbeats 4000000 in
theorem dtakes_c (A : ADt) (hE : A.ends.length = A.rows.length) (s : Int) : Call1 Tryd.prog 14 [.vp (autoV A), .v (.int .i64 s)] (.v (.bool (takesX A s))) := by
 have CZ := dlen_c A
 simp only [autoV, gV, strsA, List.cons_append, List.nil_append, hE] at CZ ⊢
 by_cases h0 : 0 ≤ s
 ·obtain ⟨k, rfl⟩ : ∃ k : Nat, s = k := ⟨s.toNat, by omega⟩
  have e1 : decide (0 ≤ (k : Int)) = true := decide_eq_true h0
  by_cases h1 : k < A.rows.length
  ·have e2 : decide ((k : Int) < (A.rows.length : Int)) = true := decide_eq_true (by omega)
   have e3 : takesX A k = A.ends.getD k false := by rw [takesX, e1, e2]; rfl
   have eG : (A.ends.map (fun b => [AV.v (.bool b)])).getD k [] = [.v (.bool (A.ends.getD k false))] := by
    rw [List.getD_eq_getElem?_getD, List.getElem?_map, List.getElem?_eq_getElem (by omega), List.getD_eq_getElem?_getD, List.getElem?_eq_getElem (by omega)]; rfl
   rw [e3]
   (refine Call1.enter Tryd.func14 rfl (by kernel_rfl) (by kernel_rfl) rfl (by first | rfl | (simp only [go_sem, Bool.and_self, Bool.and_true, Bool.true_and])) (by first | rfl | (simp only [go_sem, Bool.and_self, Bool.and_true, Bool.true_and])) ?_; simp only [Tryd.ntmps14, Tryd.results14, List.length_cons, List.length_nil, Nat.reduceAdd, Nat.reduceSub, List.replicate_succ, List.replicate_zero, List.cons_append, List.nil_append])
   repeat (first | (with_reducible first | refine Stp.up ?_ | refine fun (K : AK) hK => ?_ | (refine hK _ ?_; clear hK K)) | simp only [go_sem, e1] | with_reducible refine wA ?_ | clear hK K)
   refine ACallV.one CZ ?_
   repeat (first | (with_reducible first | refine Stp.up ?_ | refine fun (K : AK) hK => ?_ | (refine hK _ ?_; clear hK K)) | simp only [go_sem, e2, eG] | with_reducible refine wA ?_ | clear hK K)
  ·have e2 : decide ((k : Int) < (A.rows.length : Int)) = false := decide_eq_false (by omega)
   have e3 : takesX A k = false := by rw [takesX, e2]; simp
   rw [e3]
   (refine Call1.enter Tryd.func14 rfl (by kernel_rfl) (by kernel_rfl) rfl (by first | rfl | (simp only [go_sem, Bool.and_self, Bool.and_true, Bool.true_and])) (by first | rfl | (simp only [go_sem, Bool.and_self, Bool.and_true, Bool.true_and])) ?_; simp only [Tryd.ntmps14, Tryd.results14, List.length_cons, List.length_nil, Nat.reduceAdd, Nat.reduceSub, List.replicate_succ, List.replicate_zero, List.cons_append, List.nil_append])
   repeat (first | (with_reducible first | refine Stp.up ?_ | refine fun (K : AK) hK => ?_ | (refine hK _ ?_; clear hK K)) | simp only [go_sem, e1] | with_reducible refine wA ?_ | clear hK K)
   refine ACallV.one CZ ?_
   repeat (first | (with_reducible first | refine Stp.up ?_ | refine fun (K : AK) hK => ?_ | (refine hK _ ?_; clear hK K)) | simp only [go_sem, e2] | with_reducible refine wA ?_ | clear hK K)
 ·have e1 : decide (0 ≤ s) = false := decide_eq_false h0
  have e3 : takesX A s = false := by rw [takesX, e1]; rfl
  rw [e3]
  (refine Call1.enter Tryd.func14 rfl (by kernel_rfl) (by kernel_rfl) rfl (by first | rfl | (simp only [go_sem, Bool.and_self, Bool.and_true, Bool.true_and])) (by first | rfl | (simp only [go_sem, Bool.and_self, Bool.and_true, Bool.true_and])) ?_; simp only [Tryd.ntmps14, Tryd.results14, List.length_cons, List.length_nil, Nat.reduceAdd, Nat.reduceSub, List.replicate_succ, List.replicate_zero, List.cons_append, List.nil_append])
  repeat (first | (with_reducible first | refine Stp.up ?_ | refine fun (K : AK) hK => ?_ | (refine hK _ ?_; clear hK K)) | simp only [go_sem, e1] | with_reducible refine wA ?_ | clear hK K)
set_option maxRecDepth 100000 in
set_option maxHeartbeats 4000000 in
theorem dstep_c (A : ADt) (s : Int) (l : ByteArray) : Call1 Tryd.prog 10 [.vp (autoV A), .v (.int .i64 s), .v (.string l)] (stepT (stepX A s l)) := by
 have CZ := dlen_c A
 simp only [autoV, gV, strsA, List.cons_append, List.nil_append] at *
 by_cases h0 : 0 ≤ s
 ·obtain ⟨k, rfl⟩ : ∃ k : Nat, s = k := ⟨s.toNat, by omega⟩
  have e1 : decide (0 ≤ (k : Int)) = true := decide_eq_true h0
  by_cases h1 : k < A.rows.length
  ·have e2 : decide ((k : Int) < (A.rows.length : Int)) = true := decide_eq_true (by omega)
   have e3 : stepX A k l = look A.rows[k] l := by
    rw [stepX, if_pos ⟨h0, by omega⟩, Int.toNat_natCast, List.getD_eq_getElem?_getD, List.getElem?_eq_getElem h1]; rfl
   have eG : (A.rows.map (fun r => [AV.mp (mRow r)])).getD k [] = [.mp (mRow A.rows[k])] := by
    rw [List.getD_eq_getElem?_getD, List.getElem?_map, List.getElem?_eq_getElem h1]; rfl
   have eA := aGet_r l A.rows[k]
   rw [e3]
   cases hl : look A.rows[k] l with
   | none =>
    rw [hl] at eA
    simp only [Option.map_none, stepT, Option.getD_none, Option.isSome_none] at eA ⊢
    (refine Call1.enter Tryd.func10 rfl (by kernel_rfl) (by kernel_rfl) rfl (by first | rfl | (simp only [go_sem, Bool.and_self, Bool.and_true, Bool.true_and])) (by first | rfl | (simp only [go_sem, Bool.and_self, Bool.and_true, Bool.true_and])) ?_; simp only [Tryd.ntmps10, Tryd.results10, List.length_cons, List.length_nil, Nat.reduceAdd, Nat.reduceSub, List.replicate_succ, List.replicate_zero, List.cons_append, List.nil_append])
    repeat (first | (with_reducible first | refine Stp.up ?_ | refine fun (K : AK) hK => ?_ | (refine hK _ ?_; clear hK K)) | simp only [go_sem, e1] | with_reducible refine wA ?_ | clear hK K)
    refine ACallV.one CZ ?_
    repeat (first | (with_reducible first | refine Stp.up ?_ | refine fun (K : AK) hK => ?_ | (refine hK _ ?_; clear hK K)) | simp only [go_sem, e2, eG, eA] | with_reducible refine wA ?_ | clear hK K)
    (refine AFz.of 40 rfl ?_; simp only [go_sem])
   | some t =>
    rw [hl] at eA
    simp only [Option.map_some, stepT, Option.getD_some, Option.isSome_some] at eA ⊢
    (refine Call1.enter Tryd.func10 rfl (by kernel_rfl) (by kernel_rfl) rfl (by first | rfl | (simp only [go_sem, Bool.and_self, Bool.and_true, Bool.true_and])) (by first | rfl | (simp only [go_sem, Bool.and_self, Bool.and_true, Bool.true_and])) ?_; simp only [Tryd.ntmps10, Tryd.results10, List.length_cons, List.length_nil, Nat.reduceAdd, Nat.reduceSub, List.replicate_succ, List.replicate_zero, List.cons_append, List.nil_append])
    repeat (first | (with_reducible first | refine Stp.up ?_ | refine fun (K : AK) hK => ?_ | (refine hK _ ?_; clear hK K)) | simp only [go_sem, e1] | with_reducible refine wA ?_ | clear hK K)
    refine ACallV.one CZ ?_
    repeat (first | (with_reducible first | refine Stp.up ?_ | refine fun (K : AK) hK => ?_ | (refine hK _ ?_; clear hK K)) | simp only [go_sem, e2, eG, eA] | with_reducible refine wA ?_ | clear hK K)
    (refine AFz.of 40 rfl ?_; simp only [go_sem])
  ·have e2 : decide ((k : Int) < (A.rows.length : Int)) = false := decide_eq_false (by omega)
   have e3 : stepX A k l = none := by rw [stepX, if_neg (by omega)]
   rw [e3]
   simp only [stepT, Option.getD_none, Option.isSome_none]
   (refine Call1.enter Tryd.func10 rfl (by kernel_rfl) (by kernel_rfl) rfl (by first | rfl | (simp only [go_sem, Bool.and_self, Bool.and_true, Bool.true_and])) (by first | rfl | (simp only [go_sem, Bool.and_self, Bool.and_true, Bool.true_and])) ?_; simp only [Tryd.ntmps10, Tryd.results10, List.length_cons, List.length_nil, Nat.reduceAdd, Nat.reduceSub, List.replicate_succ, List.replicate_zero, List.cons_append, List.nil_append])
   repeat (first | (with_reducible first | refine Stp.up ?_ | refine fun (K : AK) hK => ?_ | (refine hK _ ?_; clear hK K)) | simp only [go_sem, e1] | with_reducible refine wA ?_ | clear hK K)
   refine ACallV.one CZ ?_
   repeat (first | (with_reducible first | refine Stp.up ?_ | refine fun (K : AK) hK => ?_ | (refine hK _ ?_; clear hK K)) | simp only [go_sem, e2] | with_reducible refine wA ?_ | clear hK K)
   (refine AFz.of 40 rfl ?_; simp only [go_sem])
 ·have e1 : decide (0 ≤ s) = false := decide_eq_false h0
  have e3 : stepX A s l = none := by rw [stepX, if_neg (by omega)]
  rw [e3]
  simp only [stepT, Option.getD_none, Option.isSome_none]
  (refine Call1.enter Tryd.func10 rfl (by kernel_rfl) (by kernel_rfl) rfl (by first | rfl | (simp only [go_sem, Bool.and_self, Bool.and_true, Bool.true_and])) (by first | rfl | (simp only [go_sem, Bool.and_self, Bool.and_true, Bool.true_and])) ?_; simp only [Tryd.ntmps10, Tryd.results10, List.length_cons, List.length_nil, Nat.reduceAdd, Nat.reduceSub, List.replicate_succ, List.replicate_zero, List.cons_append, List.nil_append])
  repeat (first | (with_reducible first | refine Stp.up ?_ | refine fun (K : AK) hK => ?_ | (refine hK _ ?_; clear hK K)) | simp only [go_sem, e1] | with_reducible refine wA ?_ | clear hK K)
  (refine AFz.of 40 rfl ?_; simp only [go_sem])
/-! ### words -/
theorem gTakes_cons (rows : List LRow) (ends : List Bool) (s : Nat) (l : ByteArray) (w : List ByteArray) : gTakes rows ends s (l :: w) = match look (rows.getD s []) l with
 | some t => gTakes rows ends t w
 | none => false := by
 rw [gTakes, gRun]
 cases look (rows.getD s []) l <;> rfl

end Go.Proofs.YtfflpdekojlnmaaDoor

namespace Go.Proofs.YtfflpdekojlnmaaDoor
open Go.RowKit

set_option maxRecDepth 100000 in
set_option maxHeartbeats 4000000 in
theorem clS_e (l : List ByteArray) (hl : l.length ≤ 1000000) (hne : l ≠ []) : CallE Tryd.prog 19 [.slc 1 (l.map encS) l.length] [] (.vec 0 l.length) [some ⟨9, 1, true, l.map encS⟩] := by
 have hpos : 0 < l.length := by cases l <;> simp_all
 have eL : (l.map encS).length = l.length := by simp
 (refine CallE.enter Tryd.func19 rfl (by kernel_rfl) (by kernel_rfl) rfl ?_; simp only [Tryd.ntmps19, Tryd.results19, List.length_cons, List.length_nil, Nat.reduceAdd, Nat.reduceSub, List.replicate_succ, List.replicate_zero, List.cons_append, List.nil_append])
 repeat (first | (with_reducible first | refine Stp.up ?_ | refine fun (K : AK) hK => ?_ | (refine hK _ ?_; clear hK K)) | simp only [go_sem, eL] | with_reducible refine wA ?_ | clear hK K)
 refine ⟨fun e => hne (by simpa using e), ?_⟩
 have eT : (l.map encS).take l.length = l.map encS := List.take_of_length_le (by omega)
 repeat (first | (with_reducible first | refine Stp.up ?_ | refine fun (K : AK) hK => ?_ | (refine hK _ ?_; clear hK K)) | simp only [go_sem, eL, eT] | with_reducible refine wA ?_ | clear hK K)
 (refine ⟨?_, ?_, ?_⟩ <;> simp only [WkT, WkO, AV.v.injEq, Value.int.injEq, Value.bool.injEq, Value.string.injEq, AV.vec.injEq, AV.ptr.injEq, true_or, or_true, false_or, or_false, AObj.mk.injEq, forall_eq_apply_imp_iff, forall_eq, forall_eq', go_sem])
set_option maxRecDepth 100000 in
theorem clS_0 : Call1 Tryd.prog 19 [.slc 1 [] 0] (.slc 1 [] 0) := by
 refine ⟨⟨rfl, rfl⟩, by kernel_rfl, fun D nu w vargs hro hra => ?_⟩
 obtain ⟨x, rfl, hx⟩ := ras_one hra
 obtain ⟨a, c, rfl⟩ := ra_empty hx
 have key : Calls Tryd.prog 19 #[.slice a 0 c] w (fun e w' => ∃ b, e = .returned (.slice b 0 0) ∧ Below w.heap.size w w') := by
  have hq : ∀ w, (binOp .eql 36 (.slice a 0 c) (.slice none 0 0)).run Tryd.prog w = .ok (.bool a.isNone) w := fun w => (sl_nil (by kernel_rfl)).1
  have HB := Lib.hid (fun ob => ((Below.refl w.heap.size w).alloc (Nat.le_refl _) ob))
  cases a with
  | none =>
   clear hx hra hro
   go_enter Tryd.func19, Tryd.ntmps19
   go_wp2
   go_ret
   exact ⟨none, rfl, .refl _ _⟩
  | some a =>
   clear hx hra hro
   go_enter Tryd.func19, Tryd.ntmps19
   go_wp2
   go_ret
   exact ⟨some _, rfl, HB.out _⟩
 refine key.mono ?_
 rintro e w' ⟨b, rfl, hb⟩
 refine ⟨_, nu, [], .slc 1 [] 0, rfl, mono_below hb, hro.below hb, ?_, rfl, rfl⟩
 cases b with
 | none => exact .slcNil 1
 | some b => exact .slcOdd 1 b
theorem clS_c (l : List ByteArray) (hl : l.length ≤ 1000000) : Call1 Tryd.prog 19 [strsA l] (strsA l) := by
 by_cases h : l = []
 ·subst h; exact clS_0
 ·exact (clS_e l hl h).to1 8 rfl ⟨by simp, by simp, wf_encS _ _⟩ (by simp only [go_sem]) (wf_encS _ _)
set_option maxRecDepth 100000 in
theorem dlabels_c (A : ADt) (hl : A.labs.length ≤ 1000000) : Call1 Tryd.prog 9 [.vp (autoV A)] (strsA A.labs) := by
 have CC := clS_c A.labs hl
 simp only [autoV, gV, strsA, List.cons_append, List.nil_append] at *
 (refine Call1.enter Tryd.func9 rfl (by kernel_rfl) (by kernel_rfl) rfl (by first | rfl | (simp only [go_sem, Bool.and_self, Bool.and_true, Bool.true_and])) (by first | rfl | (simp only [go_sem, Bool.and_self, Bool.and_true, Bool.true_and])) ?_; simp only [Tryd.ntmps9, Tryd.results9, List.length_cons, List.length_nil, Nat.reduceAdd, Nat.reduceSub, List.replicate_succ, List.replicate_zero, List.cons_append, List.nil_append])
 repeat (first | (with_reducible first | refine Stp.up ?_ | refine fun (K : AK) hK => ?_ | (refine hK _ ?_; clear hK K)) | simp only [go_sem] | clear hK K)
 refine ACallV.one CC ?_
 repeat (first | (with_reducible first | refine Stp.up ?_ | refine fun (K : AK) hK => ?_ | (refine hK _ ?_; clear hK K)) | simp only [go_sem] | clear hK K)
 (refine AFz.of 40 rfl ?_; simp only [go_sem])
end Go.Proofs.YtfflpdekojlnmaaDoor
