/- nfa.New. -/
import Derived.Test.YtmdkgajjekbanaaDoorENfaN
import Derived.Test.YtmdkgajjekbanaaDoorEExprC
import Derived.Test.YtmdkgajjekbanaaDoorEAbsV
import Derived.Test.YtmdkgajjekbanaaDoorEOnceC
set_option linter.unusedSimpArgs false
set_option linter.unusedVariables false
namespace Go.Proofs.YtmdkgajjekbanaaDoor
open Go.RowKit

theorem frzL_v {o : List (Option AObj)} : ∀ (L : List AV) (n : Nat), (∀ c ∈ L, ∃ x, c = .v x) → L.length + 2 ≤ n → ∃ p, aFrzL o n L = some (p, L) ∧ p
 | [], n + 1, _, _ => ⟨True, rfl, trivial⟩
 | a :: l, n + 2, hL, hn => by
  obtain ⟨x, rfl⟩ := hL a (by simp)
  obtain ⟨p, h1, h2⟩ := frzL_v (o := o) l (n + 1) (fun c hc => hL c (by simp [hc])) (by simp at hn; omega)
  exact ⟨((AV.v x).wf 0 = true) ∧ p, by rw [aFrzL, h1]; rfl, rfl, h2⟩
 | a :: l, 0, _, hn => by simp at hn
 | a :: l, 1, _, hn => by simp at hn
 | [], 0, _, hn => by simp at hn
def st0 (x : Ex) : NSt := ⟨[], List.replicate 25 0#32, 0#32, emptyB x⟩
def newM (x : Ex) : NSt := { (bld x (st0 x)).1 with fs := (bld x (st0 x)).1.fs.set 0 (bld x (st0 x)).2.1, la := (bld x (st0 x)).2.2 }
theorem lab_parts (x : Ex) : (labE x).length ≤ (exParts x).length := by
 induction x using Ex.ind with
 | h k s l ih =>
  have hl : ∀ m : List Ex, (∀ y ∈ m, (labE y).length ≤ (exParts y).length) → (labEs m).length ≤ (exsParts m).length := fun m => by
   induction m with
   | nil => intro _; simp [labEs, exsParts]
   | cons y m ihm =>
    intro h
    rw [labEs, exsParts, List.length_append, List.length_append]
    have h1 := h y (by simp)
    have h2 := ihm (fun z hz => h z (by simp [hz]))
    omega
  have := hl l ih
  rw [labE, exParts, List.length_cons]
  split
  ·simp
  ·omega
theorem lab_le {x : Ex} (h : exRight x = true) : (labE x).length ≤ 24 := by
 simp only [exRight, Bool.and_eq_true, decide_eq_true_eq] at h
 have := lab_parts x; omega
theorem new_frz (labs : List ByteArray) (f1 l1 : BitVec 32) (rest : List (BitVec 32)) (em : Bool) (hr : rest.length = 24) (o : List (Option AObj)) (h1 : o[1]? = some (some ⟨72, 28, false, [.vec 2 labs.length :: encM f1 :: (rest.map encM ++ [encM l1, .v (.bool em)])]⟩)) (h2 : o[2]? = some (some ⟨9, 1, true, labs.map encS⟩)) :
  AFz o (.tup [.ptr 1 0 28 0 0, .v (.int .i64 0)]) (.tup [.vp (nfaV ⟨labs, f1 :: rest, l1, em⟩), .v (.int .i64 0)]) := by
 obtain ⟨p, hp, hp'⟩ := frzL_v (o := o) (encM f1 :: (rest.map encM ++ [encM l1, .v (.bool em)])) 50 (fun c hc => by
  simp only [List.mem_cons, List.mem_append, List.mem_map, List.not_mem_nil, or_false] at hc
  rcases hc with rfl | ⟨y, _, rfl⟩ | rfl | rfl
  ·exact ⟨_, rfl⟩
  ·exact ⟨_, rfl⟩
  ·exact ⟨_, rfl⟩
  ·exact ⟨_, rfl⟩) (by simp [hr])
 have e1 : aFrz o 50 (.vec 2 labs.length) = some (True ∧ (labs.map encS).length = labs.length ∧ wfR 0 (labs.map encS) = true, .slc 1 (labs.map encS) labs.length) := by
  rw [aFrz, h2]; simp
 have e2 : aFrzL o 51 (.vec 2 labs.length :: encM f1 :: (rest.map encM ++ [encM l1, .v (.bool em)])) = some ((True ∧ (labs.map encS).length = labs.length ∧ wfR 0 (labs.map encS) = true) ∧ p, .slc 1 (labs.map encS) labs.length :: encM f1 :: (rest.map encM ++ [encM l1, .v (.bool em)])) := by
  rw [aFrzL, e1, hp]
 refine AFz.of 54 (p := ((((True ∧ (labs.map encS).length = labs.length ∧ wfR 0 (labs.map encS) = true) ∧ p) ∧ AObj.hl ⟨72, 28, false, [.vec 2 labs.length :: encM f1 :: (rest.map encM ++ [encM l1, .v (.bool em)])]⟩ = 0 ∧ 28 = 28 ∧ 0 < 1) ∧ (AV.v (.int .i64 0)).wf 0 = true ∧ True)) ?_ ⟨⟨⟨⟨trivial, by simp, wf_encS 0 labs⟩, hp'⟩, rfl, rfl, by decide⟩, rfl, trivial⟩
 rw [aFrz, aFrzL, aFrz, h1]
 simp only [List.getD_cons_zero, e2]
 rfl
set_option maxRecDepth 100000 in
set_option maxHeartbeats 4000000 in
theorem new_c (x : Ex) (ho : x.ok) : Call1 Tryd.prog 11 [.agg (encE x)] (if exRight x then .tup [.vp (nfaV (newM x)), .v (.int .i64 0)] else .tup [.v (.pointer none), .v (.int .i64 2)]) := by
 have R := exRight_c x ho
 have E := Empty_c x ho
 cases hr : exRight x
 ·rw [hr] at R
  simp only [Bool.false_eq_true, if_false]
  simp only [encE_eq] at *
  (refine Call1.enter Tryd.func11 rfl (by kernel_rfl) (by kernel_rfl) rfl (by first | rfl | (simp only [go_sem, Bool.and_self, Bool.and_true, Bool.true_and])) (by first | rfl | (simp only [go_sem, Bool.and_self, Bool.and_true, Bool.true_and])) ?_; simp only [Tryd.ntmps11, Tryd.results11, List.length_cons, List.length_nil, Nat.reduceAdd, Nat.reduceSub, List.replicate_succ, List.replicate_zero, List.cons_append, List.nil_append])
  repeat (first | (with_reducible first | refine Stp.up ?_ | refine fun (K : AK) hK => ?_ | refine adrawG_k (by decide) ?_ | (refine hK _ ?_; clear hK K)) | simp only [go_sem] | with_reducible refine wA ?_ | (refine adrawG_l rfl ?_) | (refine adrawG_eL rfl ?_) | clear hK K)
  refine ACallV.one R ?_
  repeat (first | (with_reducible first | refine Stp.up ?_ | refine fun (K : AK) hK => ?_ | refine adrawG_k (by decide) ?_ | (refine hK _ ?_; clear hK K)) | simp only [go_sem] | with_reducible refine wA ?_ | (refine adrawG_l rfl ?_) | (refine adrawG_eL rfl ?_) | clear hK K)
  (refine AFz.of 40 rfl ?_; simp only [go_sem])
 ·rw [hr] at R
  simp only [if_true]
  have hnl : (labE x).length ≤ 24 := lab_le hr
  have P := part_e x ho hr (st0 x) (by simp [st0]) (by simp [st0]; exact hnl)
  have B := bld_law x (st0 x) (by simp [st0]) (by simp [st0]; exact hnl)
  simp only [newM]
  generalize bld x (st0 x) = b at *
  simp only [encE_eq] at *
  (refine Call1.enter Tryd.func11 rfl (by kernel_rfl) (by kernel_rfl) rfl (by first | rfl | (simp only [go_sem, Bool.and_self, Bool.and_true, Bool.true_and])) (by first | rfl | (simp only [go_sem, Bool.and_self, Bool.and_true, Bool.true_and])) ?_; simp only [Tryd.ntmps11, Tryd.results11, List.length_cons, List.length_nil, Nat.reduceAdd, Nat.reduceSub, List.replicate_succ, List.replicate_zero, List.cons_append, List.nil_append])
  repeat (first | (with_reducible first | refine Stp.up ?_ | refine fun (K : AK) hK => ?_ | refine adrawG_k (by decide) ?_ | (refine hK _ ?_; clear hK K)) | simp only [go_sem] | with_reducible refine wA ?_ | (refine adrawG_l rfl ?_) | (refine adrawG_eL rfl ?_) | clear hK K)
  refine ACallV.one R ?_
  repeat (first | (with_reducible first | refine Stp.up ?_ | refine fun (K : AK) hK => ?_ | refine adrawG_k (by decide) ?_ | (refine hK _ ?_; clear hK K)) | simp only [go_sem] | with_reducible refine wA ?_ | (refine adrawG_l rfl ?_) | (refine adrawG_eL rfl ?_) | clear hK K)
  refine ACallV.one E ?_
  repeat ((fail_if_success (with_reducible refine stopR (i := 4) ?_)); first | (with_reducible first | refine Stp.up ?_ | refine fun (K : AK) hK => ?_ | refine adrawG_k (by decide) ?_ | (refine hK _ ?_; clear hK K)) | simp only [go_sem] | with_reducible refine wA ?_ | (refine adrawG_l rfl ?_) | (refine adrawG_eL rfl ?_) | clear hK K)
  refine awp_turn (turn_cell (k := 1) (i := 0) (j := 0) 9 1 (by decide) rfl (show 0 < 28 by decide) rfl rfl) (by kernel_rfl) ?_
  simp only [List.length_cons, List.length_nil, Nat.reduceAdd, List.cons_append, List.nil_append, List.set_cons_zero, List.set_cons_succ]
  repeat ((fail_if_success (with_reducible refine stopR (i := 5) ?_)); first | (with_reducible first | refine Stp.up ?_ | refine fun (K : AK) hK => ?_ | refine adrawG_k (by decide) ?_ | (refine hK _ ?_; clear hK K)) | simp only [go_sem] | with_reducible refine wA ?_ | (refine adrawG_l rfl ?_) | (refine adrawG_eL rfl ?_) | clear hK K)
  have wE : wfL 2 [.ptr 0 0 28 0 0, .agg [.v (.int .i64 x.kind), .v (.string x.label), .slc 3 (x.kids.map encE) x.kids.length]] = true := by simp only [wfL, AV.wf, wf_encE, Bool.and_self, Bool.true_and]; rfl
  refine ACallV.fr [1, 2] P (by decide) rfl ?_ wE ?_ ?_
  ·simp only [renL, AV.ren, renR_wf0 _ _ (wf_encE 0 x.kids)]; rfl
  ·intro i ob hi
   match i, hi with
   | 0, hi => cases hi; rfl
   | 1, hi => cases hi; rfl
   | i + 2, hi => simp [NSt.os] at hi
  simp only [NSt.os, NSt.row, encM, putO, List.map_cons, List.map_nil, Option.map_some, AObj.ren, renR, renL, AV.ren, ren_nfa, renR_encS, List.length_cons, List.length_nil, List.set_cons_zero, List.set_cons_succ, List.append_nil]
  have e1 : sig [1, 2] 3 1 = 2 := rfl
  simp only [Nat.reduceAdd, e1]
  obtain ⟨⟨labs, fs, la, em⟩, f1, l1⟩ := b
  obtain ⟨f0, rest, rfl⟩ : ∃ f0 rest, fs = f0 :: rest := by
   cases fs with
   | nil => have := B.len; simp at this
   | cons a r => exact ⟨a, r, rfl⟩
  have hr24 : rest.length = 24 := by have := B.len; simpa using this
  have t24 : List.take 24 (rest.map encM ++ [.v (.int .u32 la.toNat), .v (.bool em)]) = rest.map encM := by rw [List.take_append_of_le_length (by simp [hr24]), List.take_of_length_le (by simp [hr24])]
  have d25 : List.drop 25 (rest.map encM ++ [.v (.int .u32 la.toNat), .v (.bool em)]) = [.v (.bool em)] := by
   rw [show 25 = (rest.map encM).length + 1 by simp [hr24], List.drop_append]; simp
  simp only [List.map_cons, encM, List.cons_append]
  repeat ((fail_if_success (with_reducible refine stopR (i := 5) ?_)); first | (with_reducible first | refine Stp.up ?_ | refine fun (K : AK) hK => ?_ | refine adrawG_k (by decide) ?_ | (refine hK _ ?_; clear hK K)) | simp only [go_sem] | with_reducible refine wA ?_ | (refine adrawG_l rfl ?_) | (refine adrawG_eL rfl ?_) | clear hK K)
  refine awp_drawG [9, 12] [(5, 1000)] (by decide +kernel) (by kernel_rfl) ?_
  repeat (first | (with_reducible first | refine Stp.up ?_ | refine fun (K : AK) hK => ?_ | refine adrawG_k (by decide) ?_ | (refine hK _ ?_; clear hK K)) | simp only [go_sem, t24, d25] | with_reducible refine wA ?_ | (refine adrawG_l rfl ?_) | (refine adrawG_eL rfl ?_) | clear hK K)
  refine new_frz labs f1 l1 rest em hr24 _ rfl rfl
end Go.Proofs.YtmdkgajjekbanaaDoor

namespace Go.Proofs.YtmdkgajjekbanaaDoor
open Go.RowKit

mutual
def sX : Ex → Nat → Nat
 | .mk _ _ l, deep => if 60 < deep then 301 else sL l (deep + 1) 1
def sL : List Ex → Nat → Nat → Nat
 | [], _, n => n
 | x :: xs, d, n => if n ≤ 300 then sL xs d (n + sX x d) else n
end
theorem sL_take : ∀ (l : List Ex) (d n k : Nat) (h : k < l.length), sL (l.take k) d n ≤ 300 → sL (l.take (k + 1)) d n = sL (l.take k) d n + sX l[k] d
 | [], _, _, _, h, _ => by simp at h
 | x :: xs, d, n, 0, _, hn => by
  simp only [List.take_zero, sL] at hn ⊢
  simp [sL, hn]
 | x :: xs, d, n, k + 1, h, hn => by
  simp only [List.take_succ_cons, sL, List.getElem_cons_succ] at hn ⊢
  by_cases hc : n ≤ 300
  ·rw [if_pos hc] at hn ⊢
   rw [if_pos hc]
   exact sL_take xs d _ k (by simpa using h) hn
  ·rw [if_neg hc] at hn; omega
theorem sL_stop : ∀ (l : List Ex) (d n k : Nat), 300 < sL (l.take k) d n → sL l d n = sL (l.take k) d n
 | [], _, _, _, _ => by simp
 | x :: xs, d, n, 0, hn => by
  simp only [List.take_zero, sL] at hn ⊢
  rw [if_neg (by omega)]
 | x :: xs, d, n, k + 1, hn => by
  simp only [List.take_succ_cons, sL] at hn ⊢
  by_cases hc : n ≤ 300
  ·rw [if_pos hc] at hn ⊢
   rw [if_pos hc]
   exact sL_stop xs d _ k hn
  ·rw [if_neg hc, if_neg hc]
mutual
theorem sX_rng : ∀ (x : Ex) (d : Nat), d ≤ 61 → 1 ≤ sX x d ∧ sX x d ≤ 301 + 300 * (61 - d)
 | .mk _ _ l, d, h => by
  rw [sX]
  split
  ·omega
  ·have := sL_rng l (d + 1) 1 (by omega); omega
theorem sL_rng : ∀ (l : List Ex) (d n : Nat), d ≤ 61 → n ≤ sL l d n ∧ sL l d n ≤ max n (601 + 300 * (61 - d))
 | [], d, n, h => by rw [sL]; omega
 | x :: xs, d, n, h => by
  rw [sL]
  split
  ·have h1 := sX_rng x d h
   have h2 := sL_rng xs d (n + sX x d) h
   omega
  ·omega
end

def grN (a b : Ex) : Nat := if sX a 0 ≤ 300 then sX a 0 + sX b 0 else sX a 0
def greatB (w : List ByteArray) (a b : Ex) : Bool := decide (300 < grN a b) || decide (30 < w.length)

/-! ### what words two expressions take, in plain Lean -/
noncomputable def partAt (p q : List ByteArray → Bool) (w : List ByteArray) (n : Nat) : Bool := (List.range n).any (fun k => p (w.take k) && q (w.drop k))
section
variable {a b : Ex} (ha : exRight a = true) (hb : exRight b = true) (na : (exParts a).length ≤ 11) (nb : (exParts b).length ≤ 11)
include ha hb na nb
omit hb nb
end
end Go.Proofs.YtmdkgajjekbanaaDoor

namespace Go.Proofs.YtmdkgajjekbanaaDoor
open Go.RowKit

set_option maxRecDepth 100000 in
set_option maxHeartbeats 4000000 in
theorem sameInts_c (a b : List Int) (ha : a.length ≤ 1000000) : Call1 Tryd.prog 20 [intsA a, intsA b] (.v (.bool (decide (a = b)))) := by
 simp only [intsA]
 (refine Call1.enter Tryd.func20 rfl (by kernel_rfl) (by kernel_rfl) rfl (by first | rfl | (simp only [go_sem, Bool.and_self, Bool.and_true, Bool.true_and])) (by first | rfl | (simp only [go_sem, Bool.and_self, Bool.and_true, Bool.true_and])) ?_; simp only [Tryd.ntmps20, Tryd.results20, List.length_cons, List.length_nil, Nat.reduceAdd, Nat.reduceSub, List.replicate_succ, List.replicate_zero, List.cons_append, List.nil_append])
 by_cases hL : a.length = b.length
 ·have hd : ((a.length : Int) != (b.length : Int)) = false := by simp [hL]
  repeat (first | (with_reducible first | refine Stp.up ?_ | refine fun (K : AK) hK => ?_ | refine wD ?_ | (refine hK _ ?_; clear hK K)) | simp only [go_sem, hd] | with_reducible refine wA ?_ | clear hK K)
  refine awp_loopK (ι := Nat) 11 (fun i => [(5, .v (.int .i64 i))]) (fun i => a.length - i) (fun i => i ≤ a.length ∧ a.take i = b.take i) 0 ⟨Nat.zero_le _, rfl⟩ ?_ ?_
  ·(refine wk_mk ?_ ?_ ?_ <;> simp only [frm, List.foldl_cons, List.foldl_nil, List.replicate_succ, List.replicate_zero, WkT, WkO, AV.v.injEq, Value.int.injEq, Value.bool.injEq, Value.string.injEq, AV.vec.injEq, AV.ptr.injEq, true_or, or_true, false_or, or_false, AObj.mk.injEq, forall_eq_apply_imp_iff, forall_eq, forall_eq', go_sem])
   all_goals first | rfl | exact ⟨rfl, rfl⟩
  rintro i ⟨hi, hn⟩ K hK
  repeat (first | (with_reducible first | refine Stp.up ?_ | refine fun (K : AK) hK => ?_ | refine wD ?_ | (refine hK _ ?_; clear hK K)) | simp only [go_sem] | with_reducible refine wA ?_ | clear hK K)
  refine AIf.part (fun h => ?_) (fun h => ?_)
  ·have hlt : i < a.length := by (try simp only [bne_iff_ne, ne_eq, bne_eq_false_iff_eq, beq_iff_eq, beq_eq_false_iff_ne, decide_eq_true_eq, decide_eq_false_iff_not, Bool.not_eq_eq_eq_not, Int.natCast_inj, Int.ofNat_lt, Int.ofNat_le] at h); omega
   have hlt2 : i < b.length := by omega
   have eW := wrap_succ (k := i) (by omega)
   have eG := getD_map encI a i [] hlt
   have eG2 := getD_map encI b i [] hlt2
   simp only [encI] at eG eG2
   repeat (first | (with_reducible first | refine Stp.up ?_ | refine fun (K : AK) hK => ?_ | refine wD ?_ | (refine hK _ ?_; clear hK K)) | simp only [go_sem, h, eG, eG2] | with_reducible refine wA ?_ | clear hK K)
   refine AIf.part (fun h2 => ?_) (fun h2 => ?_)
   ·have hc : decide (a = b) = false := by
     refine decide_eq_false (fun e => ?_)
     subst e
     simp at h2
    repeat (first | (with_reducible first | refine Stp.up ?_ | refine fun (K : AK) hK => ?_ | refine wD ?_ | (refine hK _ ?_; clear hK K)) | simp only [go_sem, hc] | with_reducible refine wA ?_ | clear hK K)
   ·have hc : a[i] = b[i] := by (try simp only [bne_iff_ne, ne_eq, bne_eq_false_iff_eq, beq_iff_eq, beq_eq_false_iff_ne, decide_eq_true_eq, decide_eq_false_iff_not, Bool.not_eq_eq_eq_not, Int.natCast_inj, Int.ofNat_lt, Int.ofNat_le] at h2); exact h2
    repeat (first | (with_reducible first | refine Stp.up ?_ | refine fun (K : AK) hK => ?_ | refine wD ?_ | (refine hK _ ?_; clear hK K)) | simp only [go_sem, eW] | with_reducible refine wA ?_ | clear hK K)
    exact LNext.mk (i + 1) ⟨by omega, by rw [List.take_succ_eq_append_getElem hlt, List.take_succ_eq_append_getElem hlt2, hn, hc]⟩ (by omega) (by (refine wk_mk ?_ ?_ ?_ <;> simp only [frm, List.foldl_cons, List.foldl_nil, List.replicate_succ, List.replicate_zero, WkT, WkO, AV.v.injEq, Value.int.injEq, Value.bool.injEq, Value.string.injEq, AV.vec.injEq, AV.ptr.injEq, true_or, or_true, false_or, or_false, AObj.mk.injEq, forall_eq_apply_imp_iff, forall_eq, forall_eq', go_sem]))
  ·have e1 : decide (a = b) = true := by
    have : i = a.length := by (try simp only [bne_iff_ne, ne_eq, bne_eq_false_iff_eq, beq_iff_eq, beq_eq_false_iff_ne, decide_eq_true_eq, decide_eq_false_iff_not, Bool.not_eq_eq_eq_not, Int.natCast_inj, Int.ofNat_lt, Int.ofNat_le] at h); omega
    rw [this, List.take_length, hL, List.take_length] at hn
    exact decide_eq_true hn
   repeat (first | (with_reducible first | refine Stp.up ?_ | refine fun (K : AK) hK => ?_ | refine wD ?_ | (refine hK _ ?_; clear hK K)) | simp only [go_sem, e1] | with_reducible refine wA ?_ | clear hK K)
 ·have hd : ((a.length : Int) != (b.length : Int)) = true := by simp; omega
  have e1 : decide (a = b) = false := decide_eq_false (fun e => hL (by rw [e]))
  repeat (first | (with_reducible first | refine Stp.up ?_ | refine fun (K : AK) hK => ?_ | refine wD ?_ | (refine hK _ ?_; clear hK K)) | simp only [go_sem, hd, e1] | with_reducible refine wA ?_ | clear hK K)
end Go.Proofs.YtmdkgajjekbanaaDoor

namespace Go.Proofs.YtmdkgajjekbanaaDoor
open Go.RowKit

set_option maxRecDepth 100000 in
set_option maxHeartbeats 4000000 in
theorem lsize08_c (x : Ex) : ∀ d : Nat, d ≤ 61 → Call1 Tryd.prog 8 [.agg (encE x), .v (.int .i64 d)] (.v (.int .i64 (sX x d : Nat))) := by
 induction x using Ex.ind with
 | h k s l ih =>
  intro d hd61
  simp only [encE_eq, sX, Ex.kind, Ex.label, Ex.kids]
  by_cases hdd : 60 < d
  ·rw [if_pos hdd]
   have hd0 : decide (60 < (d : Int)) = true := decide_eq_true (by omega)
   (refine Call1.enter Tryd.func8 rfl (by kernel_rfl) (by kernel_rfl) rfl (by first | rfl | (simp only [go_sem, Bool.and_self, Bool.and_true, Bool.true_and])) (by first | rfl | (simp only [go_sem, Bool.and_self, Bool.and_true, Bool.true_and])) ?_; simp only [Tryd.ntmps8, Tryd.results8, List.length_cons, List.length_nil, Nat.reduceAdd, Nat.reduceSub, List.replicate_succ, List.replicate_zero, List.cons_append, List.nil_append])
   repeat (first | (with_reducible first | refine Stp.up ?_ | refine fun (K : AK) hK => ?_ | (refine hK _ ?_; clear hK K)) | simp only [go_sem, hd0] | with_reducible refine wA ?_ | clear hK K)
   rfl
  ·rw [if_neg hdd]
   have hd0 : decide (60 < (d : Int)) = false := decide_eq_false (by omega)
   have eD := wrap_succ (k := d) (by omega)
   (refine Call1.enter Tryd.func8 rfl (by kernel_rfl) (by kernel_rfl) rfl (by first | rfl | (simp only [go_sem, Bool.and_self, Bool.and_true, Bool.true_and])) (by first | rfl | (simp only [go_sem, Bool.and_self, Bool.and_true, Bool.true_and])) ?_; simp only [Tryd.ntmps8, Tryd.results8, List.length_cons, List.length_nil, Nat.reduceAdd, Nat.reduceSub, List.replicate_succ, List.replicate_zero, List.cons_append, List.nil_append])
   repeat (first | (with_reducible first | refine Stp.up ?_ | refine fun (K : AK) hK => ?_ | (refine hK _ ?_; clear hK K)) | simp only [go_sem, hd0] | with_reducible refine wA ?_ | clear hK K)
   refine awp_loopK (ι := Nat) 9 (fun i => [(5, .v (.int .i64 (sL (l.take i) (d + 1) 1 : Nat))), (6, .v (.int .i64 i))]) (fun i => l.length - i) (fun i => i ≤ l.length ∧ i + 1 ≤ sL (l.take i) (d + 1) 1) 0 ⟨Nat.zero_le _, Nat.le_refl _⟩ ?_ ?_
   ·(refine wk_mk ?_ ?_ ?_ <;> simp only [frm, List.foldl_cons, List.foldl_nil, List.replicate_succ, List.replicate_zero, WkT, WkO, AV.v.injEq, Value.int.injEq, Value.bool.injEq, Value.string.injEq, AV.vec.injEq, AV.ptr.injEq, true_or, or_true, false_or, or_false, AObj.mk.injEq, forall_eq_apply_imp_iff, forall_eq, forall_eq', go_sem])
    exact ⟨rfl, rfl⟩
   rintro i ⟨hi, hin⟩ K hK
   have hr := sL_rng (l.take i) (d + 1) 1 (by omega)
   repeat (first | (with_reducible first | refine Stp.up ?_ | refine fun (K : AK) hK => ?_ | (refine hK _ ?_; clear hK K)) | simp only [go_sem] | with_reducible refine wA ?_ | clear hK K)
   refine AIf.part (fun h => ?_) (fun h => ?_)
   ·have hlt : i < l.length := by (try simp only [bne_iff_ne, ne_eq, bne_eq_false_iff_eq, beq_iff_eq, beq_eq_false_iff_ne, decide_eq_true_eq, decide_eq_false_iff_not, Bool.not_eq_eq_eq_not, Int.natCast_inj, Int.ofNat_lt, Int.ofNat_le] at h); omega
    by_cases hb2 : sL (l.take i) (d + 1) 1 ≤ 300
    ·have eW := wrap_succ (k := i) (by omega)
     have eG := getD_map encE l i [] hlt
     have HX := ih l[i] (List.getElem_mem hlt) (d + 1) (by omega)
     have eT := sL_take l (d + 1) 1 i hlt hb2
     have hr2 := sX_rng l[i] (d + 1) (by omega)
     have hd : decide (((sL (l.take i) (d + 1) 1 : Nat) : Int) ≤ 300) = true := decide_eq_true (by omega)
     have eS : IntKind.i64.wrap (((sL (l.take i) (d + 1) 1 : Nat) : Int) + ((sX l[i] (d + 1) : Nat) : Int)) = ((sL (l.take (i + 1)) (d + 1) 1 : Nat) : Int) := by rw [wrap_id (by omega) (by omega), eT]; omega
     simp only [encE_eq] at HX eG
     repeat (first | (with_reducible first | refine Stp.up ?_ | refine fun (K : AK) hK => ?_ | (refine hK _ ?_; clear hK K)) | simp only [go_sem, hd, h, eG, encE_eq, eD] | with_reducible refine wA ?_ | clear hK K)
     refine ACallV.one HX ?_
     repeat (first | (with_reducible first | refine Stp.up ?_ | refine fun (K : AK) hK => ?_ | (refine hK _ ?_; clear hK K)) | simp only [go_sem, eS, eW] | with_reducible refine wA ?_ | clear hK K)
     exact LNext.mk (i + 1) ⟨by omega, by omega⟩ (by omega) (by (refine wk_mk ?_ ?_ ?_ <;> simp only [frm, List.foldl_cons, List.foldl_nil, List.replicate_succ, List.replicate_zero, WkT, WkO, AV.v.injEq, Value.int.injEq, Value.bool.injEq, Value.string.injEq, AV.vec.injEq, AV.ptr.injEq, true_or, or_true, false_or, or_false, AObj.mk.injEq, forall_eq_apply_imp_iff, forall_eq, forall_eq', go_sem]))
    ·have eT := sL_stop l (d + 1) 1 i (by omega)
     have hd : decide (((sL (l.take i) (d + 1) 1 : Nat) : Int) ≤ 300) = false := decide_eq_false (by omega)
     repeat (first | (with_reducible first | refine Stp.up ?_ | refine fun (K : AK) hK => ?_ | (refine hK _ ?_; clear hK K)) | simp only [go_sem, hd, h] | with_reducible refine wA ?_ | clear hK K)
     rw [eT]
   ·have e1 : l.take i = l := by rw [show i = l.length by (try simp only [bne_iff_ne, ne_eq, bne_eq_false_iff_eq, beq_iff_eq, beq_eq_false_iff_ne, decide_eq_true_eq, decide_eq_false_iff_not, Bool.not_eq_eq_eq_not, Int.natCast_inj, Int.ofNat_lt, Int.ofNat_le] at h); omega, List.take_length]
    repeat (first | (with_reducible first | refine Stp.up ?_ | refine fun (K : AK) hK => ?_ | (refine hK _ ?_; clear hK K)) | simp only [go_sem, e1, h] | with_reducible refine wA ?_ | clear hK K)
set_option maxRecDepth 100000 in
theorem lof08_c (k : Int) (rows : List (List AV)) (n : Nat) (hw : wfR 0 rows = true) : Call1 Tryd.prog 34 [.v (.int .i64 k), .slc 3 rows n] (.agg [.v (.int .i64 k), .v (.string ⟨#[]⟩), .slc 3 rows n]) := by
 (refine Call1.enter Tryd.func34 rfl (by kernel_rfl) (by kernel_rfl) rfl (by simp only [go_sem, wfL, AV.wf, Bool.and_self, Bool.and_true, Bool.true_and, hw]) (by simp only [go_sem, wfL, AV.wf, wf_encS, Bool.and_self, Bool.and_true, Bool.true_and, hw]) ?_; simp only [Tryd.ntmps34, Tryd.results34, List.length_cons, List.length_nil, Nat.reduceAdd, Nat.reduceSub, List.replicate_succ, List.replicate_zero, List.cons_append, List.nil_append])
 repeat' (first | (with_reducible first | refine Stp.up ?_ | refine fun (K : AK) hK => ?_ | (refine hK _ ?_; clear hK K)) | simp only [go_sem] | clear hK K | (with_reducible refine ACallV.one (by assumption) ?_) | (with_reducible refine ACallS.one (by assumption) ?_) | (refine AIf.part (fun hb => ?_) (fun hb => ?_) <;> simp only [hb, go_sem]) | (refine AIf.part (fun hb => ?_) (fun hb => ?_)) | (with_reducible refine ABoth.mk ?_ ?_))
 refine AFz.of 40 rfl ?_
 simp only [go_sem, hw]
set_option maxRecDepth 100000 in
theorem llabel08_c (s : ByteArray) : Call1 Tryd.prog 35 [.v (.string s)] (.agg [.v (.int .i64 1), .v (.string s), .v (.slice none 0 0)]) := by
 (refine Call1.enter Tryd.func35 rfl (by kernel_rfl) (by kernel_rfl) rfl (by first | rfl | (simp only [go_sem, Bool.and_self, Bool.and_true, Bool.true_and])) (by first | rfl | (simp only [go_sem, Bool.and_self, Bool.and_true, Bool.true_and])) ?_; simp only [Tryd.ntmps35, Tryd.results35, List.length_cons, List.length_nil, Nat.reduceAdd, Nat.reduceSub, List.replicate_succ, List.replicate_zero, List.cons_append, List.nil_append])
 repeat' (first | (with_reducible first | refine Stp.up ?_ | refine fun (K : AK) hK => ?_ | (refine hK _ ?_; clear hK K)) | simp only [go_sem] | clear hK K | (with_reducible refine ACallV.one (by assumption) ?_) | (with_reducible refine ACallS.one (by assumption) ?_) | (refine AIf.part (fun hb => ?_) (fun hb => ?_) <;> simp only [hb, go_sem]) | (refine AIf.part (fun hb => ?_) (fun hb => ?_)) | (with_reducible refine ABoth.mk ?_ ?_))
 (refine AFz.of 40 rfl ?_; simp only [go_sem])
end Go.Proofs.YtmdkgajjekbanaaDoor
