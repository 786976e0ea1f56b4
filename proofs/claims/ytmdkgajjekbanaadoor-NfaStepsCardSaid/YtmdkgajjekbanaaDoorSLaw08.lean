/- kinescopelaw07: how great expressions are, the example: the walks. -/
import Derived.Test.YtmdkgajjekbanaaDoorSExprC
import Derived.Test.YtmdkgajjekbanaaDoorSAbsV
import Derived.Test.YtmdkgajjekbanaaDoorSOnceC
import Derived.Test.YtmdkgajjekbanaaDoorSNfaW
set_option linter.unusedSimpArgs false
set_option linter.unusedVariables false
namespace Go.Proofs.YtmdkgajjekbanaaDoor
open Go.RowKit

mutual
def sX : Ex → Nat → Nat
  | .mk _ _ l, deep => if 60 < deep then 301 else sL l (deep + 1) 1
def sL : List Ex → Nat → Nat → Nat
  | [], _, n => n
  | x :: xs, d, n => if n ≤ 300 then sL xs d (n + sX x d) else n
end
theorem sL_take : ∀ (l : List Ex) (d n k : Nat) (h : k < l.length), sL (l.take k) d n ≤ 300 → sL (l.take (k + 1)) d n = sL (l.take k) d n + sX l[k] d
  | [], _, _, _, h, _ => by simp at h
  | x :: xs, d, n, 0, _, hn => by
    simp only [List.take_zero, sL] at hn ⊢
    simp [sL, hn]
  | x :: xs, d, n, k + 1, h, hn => by
    simp only [List.take_succ_cons, sL, List.getElem_cons_succ] at hn ⊢
    by_cases hc : n ≤ 300
    · rw [if_pos hc] at hn ⊢
      rw [if_pos hc]
      exact sL_take xs d _ k (by simpa using h) hn
    · rw [if_neg hc] at hn; omega
theorem sL_stop : ∀ (l : List Ex) (d n k : Nat), 300 < sL (l.take k) d n → sL l d n = sL (l.take k) d n
  | [], _, _, _, _ => by simp
  | x :: xs, d, n, 0, hn => by
    simp only [List.take_zero, sL] at hn ⊢
    rw [if_neg (by omega)]
  | x :: xs, d, n, k + 1, hn => by
    simp only [List.take_succ_cons, sL] at hn ⊢
    by_cases hc : n ≤ 300
    · rw [if_pos hc] at hn ⊢
      rw [if_pos hc]
      exact sL_stop xs d _ k hn
    · rw [if_neg hc, if_neg hc]
mutual
theorem sX_rng : ∀ (x : Ex) (d : Nat), d ≤ 61 → 1 ≤ sX x d ∧ sX x d ≤ 301 + 300 * (61 - d)
  | .mk _ _ l, d, h => by
    rw [sX]
    split
    · omega
    · have := sL_rng l (d + 1) 1 (by omega); omega
theorem sL_rng : ∀ (l : List Ex) (d n : Nat), d ≤ 61 → n ≤ sL l d n ∧ sL l d n ≤ max n (601 + 300 * (61 - d))
  | [], d, n, h => by rw [sL]; omega
  | x :: xs, d, n, h => by
    rw [sL]
    split
    · have h1 := sX_rng x d h
      have h2 := sL_rng xs d (n + sX x d) h
      omega
    · omega
end

def grN (a b : Ex) : Nat := if sX a 0 ≤ 300 then sX a 0 + sX b 0 else sX a 0
def greatB (w : List ByteArray) (a b : Ex) : Bool := decide (300 < grN a b) || decide (30 < w.length)

/-! ### what words two expressions take, in plain Lean -/
noncomputable def partAt (p q : List ByteArray → Bool) (w : List ByteArray) (n : Nat) : Bool := (List.range n).any (fun k => p (w.take k) && q (w.drop k))
section
variable {a b : Ex} (ha : exRight a = true) (hb : exRight b = true) (na : (exParts a).length ≤ 11) (nb : (exParts b).length ≤ 11)
include ha hb na nb
omit hb nb
end
end Go.Proofs.YtmdkgajjekbanaaDoor

namespace Go.Proofs.YtmdkgajjekbanaaDoor
open Go.RowKit

set_option maxRecDepth 100000 in
set_option maxHeartbeats 4000000 in
theorem sameInts_c (a b : List Int) (ha : a.length ≤ 1000000) : Call1 Tryd.prog 20 [intsA a, intsA b] (.v (.bool (decide (a = b)))) := by
  simp only [intsA]
  (refine Call1.enter Tryd.func20 rfl (by kernel_rfl) (by kernel_rfl) rfl (by first | rfl | (simp only [go_sem, Bool.and_self, Bool.and_true, Bool.true_and])) (by first | rfl | (simp only [go_sem, Bool.and_self, Bool.and_true, Bool.true_and])) ?_; simp only [Tryd.ntmps20, Tryd.results20, List.length_cons, List.length_nil, Nat.reduceAdd, Nat.reduceSub, List.replicate_succ, List.replicate_zero, List.cons_append, List.nil_append])
  by_cases hL : a.length = b.length
  · have hd : ((a.length : Int) != (b.length : Int)) = false := by simp [hL]
    repeat (first | (with_reducible first | refine Stp.up ?_ | refine fun (K : AS → Prop) hK => ?_ | refine wE ?_ | refine wD ?_ | refine wK ?_ | refine wF ?_ | refine adrawG_k (by decide) ?_ | refine adrawG_e (by decide) ?_ | (refine hK _ ?_; clear hK; clear K)) | simp only [go_sem, hd] | (with_reducible refine And.intro (by omega) ?_) | (clear hK; clear K))
    refine awp_loopK (ι := Nat) 11 (fun i => [(5, .v (.int .i64 i))]) (fun i => a.length - i) (fun i => i ≤ a.length ∧ a.take i = b.take i) 0 ⟨Nat.zero_le _, rfl⟩ ?_ ?_
    · (refine wk_mk ?_ ?_ ?_ <;> simp only [frm, List.foldl_cons, List.foldl_nil, List.replicate_succ, List.replicate_zero, WkT, WkO, AV.v.injEq, Value.int.injEq, Value.bool.injEq, Value.string.injEq, AV.vec.injEq, AV.ptr.injEq, true_or, or_true, false_or, or_false, AObj.mk.injEq, forall_eq_apply_imp_iff, forall_eq, forall_eq', go_sem])
      all_goals first | rfl | exact ⟨rfl, rfl⟩
    rintro i ⟨hi, hn⟩ K hK
    repeat (first | (with_reducible first | refine Stp.up ?_ | refine fun (K : AS → Prop) hK => ?_ | refine wE ?_ | refine wD ?_ | refine wK ?_ | refine wF ?_ | refine adrawG_k (by decide) ?_ | refine adrawG_e (by decide) ?_ | (refine hK _ ?_; clear hK; clear K)) | simp only [go_sem] | (with_reducible refine And.intro (by omega) ?_) | (clear hK; clear K))
    refine AIf.part (fun h => ?_) (fun h => ?_)
    · have hlt : i < a.length := by (try simp only [bne_iff_ne, ne_eq, bne_eq_false_iff_eq, beq_iff_eq, beq_eq_false_iff_ne, decide_eq_true_eq, decide_eq_false_iff_not, Bool.not_eq_true', Bool.not_eq_false', Bool.not_eq_eq_eq_not, Bool.not_true, Bool.not_false, Int.natCast_inj, Int.ofNat_lt, Int.ofNat_le] at h); omega
      have hlt2 : i < b.length := by omega
      have eW := wrap_succ (k := i) (by omega)
      have eG := getD_map encI a i [] hlt
      have eG2 := getD_map encI b i [] hlt2
      simp only [encI] at eG eG2
      repeat (first | (with_reducible first | refine Stp.up ?_ | refine fun (K : AS → Prop) hK => ?_ | refine wE ?_ | refine wD ?_ | refine wK ?_ | refine wF ?_ | refine adrawG_k (by decide) ?_ | refine adrawG_e (by decide) ?_ | (refine hK _ ?_; clear hK; clear K)) | simp only [go_sem, h, eG, eG2] | (with_reducible refine And.intro (by omega) ?_) | (clear hK; clear K))
      refine AIf.part (fun h2 => ?_) (fun h2 => ?_)
      · have hc : decide (a = b) = false := by
          refine decide_eq_false (fun e => ?_)
          subst e
          simp at h2
        repeat (first | (with_reducible first | refine Stp.up ?_ | refine fun (K : AS → Prop) hK => ?_ | refine wE ?_ | refine wD ?_ | refine wK ?_ | refine wF ?_ | refine adrawG_k (by decide) ?_ | refine adrawG_e (by decide) ?_ | (refine hK _ ?_; clear hK; clear K)) | simp only [go_sem, hc] | (with_reducible refine And.intro (by omega) ?_) | (clear hK; clear K))
      · have hc : a[i] = b[i] := by (try simp only [bne_iff_ne, ne_eq, bne_eq_false_iff_eq, beq_iff_eq, beq_eq_false_iff_ne, decide_eq_true_eq, decide_eq_false_iff_not, Bool.not_eq_true', Bool.not_eq_false', Bool.not_eq_eq_eq_not, Bool.not_true, Bool.not_false, Int.natCast_inj, Int.ofNat_lt, Int.ofNat_le] at h2); exact h2
        repeat (first | (with_reducible first | refine Stp.up ?_ | refine fun (K : AS → Prop) hK => ?_ | refine wE ?_ | refine wD ?_ | refine wK ?_ | refine wF ?_ | refine adrawG_k (by decide) ?_ | refine adrawG_e (by decide) ?_ | (refine hK _ ?_; clear hK; clear K)) | simp only [go_sem, eW] | (with_reducible refine And.intro (by omega) ?_) | (clear hK; clear K))
        exact LNext.mk (i + 1) ⟨by omega, by rw [List.take_succ_eq_append_getElem hlt, List.take_succ_eq_append_getElem hlt2, hn, hc]⟩ (by omega) (by (refine wk_mk ?_ ?_ ?_ <;> simp only [frm, List.foldl_cons, List.foldl_nil, List.replicate_succ, List.replicate_zero, WkT, WkO, AV.v.injEq, Value.int.injEq, Value.bool.injEq, Value.string.injEq, AV.vec.injEq, AV.ptr.injEq, true_or, or_true, false_or, or_false, AObj.mk.injEq, forall_eq_apply_imp_iff, forall_eq, forall_eq', go_sem]))
    · have e1 : decide (a = b) = true := by
        have : i = a.length := by (try simp only [bne_iff_ne, ne_eq, bne_eq_false_iff_eq, beq_iff_eq, beq_eq_false_iff_ne, decide_eq_true_eq, decide_eq_false_iff_not, Bool.not_eq_true', Bool.not_eq_false', Bool.not_eq_eq_eq_not, Bool.not_true, Bool.not_false, Int.natCast_inj, Int.ofNat_lt, Int.ofNat_le] at h); omega
        rw [this, List.take_length, hL, List.take_length] at hn
        exact decide_eq_true hn
      repeat (first | (with_reducible first | refine Stp.up ?_ | refine fun (K : AS → Prop) hK => ?_ | refine wE ?_ | refine wD ?_ | refine wK ?_ | refine wF ?_ | refine adrawG_k (by decide) ?_ | refine adrawG_e (by decide) ?_ | (refine hK _ ?_; clear hK; clear K)) | simp only [go_sem, e1] | (with_reducible refine And.intro (by omega) ?_) | (clear hK; clear K))
  · have hd : ((a.length : Int) != (b.length : Int)) = true := by simp; omega
    have e1 : decide (a = b) = false := decide_eq_false (fun e => hL (by rw [e]))
    repeat (first | (with_reducible first | refine Stp.up ?_ | refine fun (K : AS → Prop) hK => ?_ | refine wE ?_ | refine wD ?_ | refine wK ?_ | refine wF ?_ | refine adrawG_k (by decide) ?_ | refine adrawG_e (by decide) ?_ | (refine hK _ ?_; clear hK; clear K)) | simp only [go_sem, hd, e1] | (with_reducible refine And.intro (by omega) ?_) | (clear hK; clear K))
end Go.Proofs.YtmdkgajjekbanaaDoor

namespace Go.Proofs.YtmdkgajjekbanaaDoor
open Go.RowKit

set_option maxRecDepth 100000 in
set_option maxHeartbeats 4000000 in
theorem lsize08_c (x : Ex) : ∀ d : Nat, d ≤ 61 → Call1 Tryd.prog 8 [.agg (encE x), .v (.int .i64 d)] (.v (.int .i64 (sX x d : Nat))) := by
  induction x using Ex.ind with
  | h k s l ih =>
    intro d hd61
    simp only [encE_eq, sX, Ex.kind, Ex.label, Ex.kids]
    by_cases hdd : 60 < d
    · rw [if_pos hdd]
      have hd0 : decide (60 < (d : Int)) = true := decide_eq_true (by omega)
      (refine Call1.enter Tryd.func8 rfl (by kernel_rfl) (by kernel_rfl) rfl (by first | rfl | (simp only [go_sem, Bool.and_self, Bool.and_true, Bool.true_and])) (by first | rfl | (simp only [go_sem, Bool.and_self, Bool.and_true, Bool.true_and])) ?_; simp only [Tryd.ntmps8, Tryd.results8, List.length_cons, List.length_nil, Nat.reduceAdd, Nat.reduceSub, List.replicate_succ, List.replicate_zero, List.cons_append, List.nil_append])
      repeat (first | (with_reducible first | refine Stp.up ?_ | refine fun (K : AS → Prop) hK => ?_ | refine wE ?_ | refine wD ?_ | refine wK ?_ | refine wF ?_ | refine adrawG_k (by decide) ?_ | refine adrawG_e (by decide) ?_ | (refine hK _ ?_; clear hK; clear K)) | simp only [go_sem, hd0] | (with_reducible refine And.intro (by omega) ?_) | (clear hK; clear K))
      rfl
    · rw [if_neg hdd]
      have hd0 : decide (60 < (d : Int)) = false := decide_eq_false (by omega)
      have eD := wrap_succ (k := d) (by omega)
      (refine Call1.enter Tryd.func8 rfl (by kernel_rfl) (by kernel_rfl) rfl (by first | rfl | (simp only [go_sem, Bool.and_self, Bool.and_true, Bool.true_and])) (by first | rfl | (simp only [go_sem, Bool.and_self, Bool.and_true, Bool.true_and])) ?_; simp only [Tryd.ntmps8, Tryd.results8, List.length_cons, List.length_nil, Nat.reduceAdd, Nat.reduceSub, List.replicate_succ, List.replicate_zero, List.cons_append, List.nil_append])
      repeat (first | (with_reducible first | refine Stp.up ?_ | refine fun (K : AS → Prop) hK => ?_ | refine wE ?_ | refine wD ?_ | refine wK ?_ | refine wF ?_ | refine adrawG_k (by decide) ?_ | refine adrawG_e (by decide) ?_ | (refine hK _ ?_; clear hK; clear K)) | simp only [go_sem, hd0] | (with_reducible refine And.intro (by omega) ?_) | (clear hK; clear K))
      refine awp_loopK (ι := Nat) 9 (fun i => [(5, .v (.int .i64 (sL (l.take i) (d + 1) 1 : Nat))), (6, .v (.int .i64 i))]) (fun i => l.length - i) (fun i => i ≤ l.length ∧ i + 1 ≤ sL (l.take i) (d + 1) 1) 0 ⟨Nat.zero_le _, Nat.le_refl _⟩ ?_ ?_
      · (refine wk_mk ?_ ?_ ?_ <;> simp only [frm, List.foldl_cons, List.foldl_nil, List.replicate_succ, List.replicate_zero, WkT, WkO, AV.v.injEq, Value.int.injEq, Value.bool.injEq, Value.string.injEq, AV.vec.injEq, AV.ptr.injEq, true_or, or_true, false_or, or_false, AObj.mk.injEq, forall_eq_apply_imp_iff, forall_eq, forall_eq', go_sem])
        exact ⟨rfl, rfl⟩
      rintro i ⟨hi, hin⟩ K hK
      have hr := sL_rng (l.take i) (d + 1) 1 (by omega)
      repeat (first | (with_reducible first | refine Stp.up ?_ | refine fun (K : AS → Prop) hK => ?_ | refine wE ?_ | refine wD ?_ | refine wK ?_ | refine wF ?_ | refine adrawG_k (by decide) ?_ | refine adrawG_e (by decide) ?_ | (refine hK _ ?_; clear hK; clear K)) | simp only [go_sem] | (with_reducible refine And.intro (by omega) ?_) | (clear hK; clear K))
      refine AIf.part (fun h => ?_) (fun h => ?_)
      · have hlt : i < l.length := by (try simp only [bne_iff_ne, ne_eq, bne_eq_false_iff_eq, beq_iff_eq, beq_eq_false_iff_ne, decide_eq_true_eq, decide_eq_false_iff_not, Bool.not_eq_true', Bool.not_eq_false', Bool.not_eq_eq_eq_not, Bool.not_true, Bool.not_false, Int.natCast_inj, Int.ofNat_lt, Int.ofNat_le] at h); omega
        by_cases hb2 : sL (l.take i) (d + 1) 1 ≤ 300
        · have eW := wrap_succ (k := i) (by omega)
          have eG := getD_map encE l i [] hlt
          have HX := ih l[i] (List.getElem_mem hlt) (d + 1) (by omega)
          have eT := sL_take l (d + 1) 1 i hlt hb2
          have hr2 := sX_rng l[i] (d + 1) (by omega)
          have hd : decide (((sL (l.take i) (d + 1) 1 : Nat) : Int) ≤ 300) = true := decide_eq_true (by omega)
          have eS : IntKind.i64.wrap (((sL (l.take i) (d + 1) 1 : Nat) : Int) + ((sX l[i] (d + 1) : Nat) : Int)) = ((sL (l.take (i + 1)) (d + 1) 1 : Nat) : Int) := by rw [wrap_id (by omega) (by omega), eT]; omega
          simp only [encE_eq] at HX eG
          repeat (first | (with_reducible first | refine Stp.up ?_ | refine fun (K : AS → Prop) hK => ?_ | refine wE ?_ | refine wD ?_ | refine wK ?_ | refine wF ?_ | refine adrawG_k (by decide) ?_ | refine adrawG_e (by decide) ?_ | (refine hK _ ?_; clear hK; clear K)) | simp only [go_sem, hd, h, eG, encE_eq, eD] | (with_reducible refine And.intro (by omega) ?_) | (clear hK; clear K))
          refine ACallV.one HX ?_
          repeat (first | (with_reducible first | refine Stp.up ?_ | refine fun (K : AS → Prop) hK => ?_ | refine wE ?_ | refine wD ?_ | refine wK ?_ | refine wF ?_ | refine adrawG_k (by decide) ?_ | refine adrawG_e (by decide) ?_ | (refine hK _ ?_; clear hK; clear K)) | simp only [go_sem, eS, eW] | (with_reducible refine And.intro (by omega) ?_) | (clear hK; clear K))
          exact LNext.mk (i + 1) ⟨by omega, by omega⟩ (by omega) (by (refine wk_mk ?_ ?_ ?_ <;> simp only [frm, List.foldl_cons, List.foldl_nil, List.replicate_succ, List.replicate_zero, WkT, WkO, AV.v.injEq, Value.int.injEq, Value.bool.injEq, Value.string.injEq, AV.vec.injEq, AV.ptr.injEq, true_or, or_true, false_or, or_false, AObj.mk.injEq, forall_eq_apply_imp_iff, forall_eq, forall_eq', go_sem]))
        · have eT := sL_stop l (d + 1) 1 i (by omega)
          have hd : decide (((sL (l.take i) (d + 1) 1 : Nat) : Int) ≤ 300) = false := decide_eq_false (by omega)
          repeat (first | (with_reducible first | refine Stp.up ?_ | refine fun (K : AS → Prop) hK => ?_ | refine wE ?_ | refine wD ?_ | refine wK ?_ | refine wF ?_ | refine adrawG_k (by decide) ?_ | refine adrawG_e (by decide) ?_ | (refine hK _ ?_; clear hK; clear K)) | simp only [go_sem, hd, h] | (with_reducible refine And.intro (by omega) ?_) | (clear hK; clear K))
          rw [eT]
      · have e1 : l.take i = l := by rw [show i = l.length by (try simp only [bne_iff_ne, ne_eq, bne_eq_false_iff_eq, beq_iff_eq, beq_eq_false_iff_ne, decide_eq_true_eq, decide_eq_false_iff_not, Bool.not_eq_true', Bool.not_eq_false', Bool.not_eq_eq_eq_not, Bool.not_true, Bool.not_false, Int.natCast_inj, Int.ofNat_lt, Int.ofNat_le] at h); omega, List.take_length]
        repeat (first | (with_reducible first | refine Stp.up ?_ | refine fun (K : AS → Prop) hK => ?_ | refine wE ?_ | refine wD ?_ | refine wK ?_ | refine wF ?_ | refine adrawG_k (by decide) ?_ | refine adrawG_e (by decide) ?_ | (refine hK _ ?_; clear hK; clear K)) | simp only [go_sem, e1, h] | (with_reducible refine And.intro (by omega) ?_) | (clear hK; clear K))
set_option maxRecDepth 100000 in
theorem lof08_c (k : Int) (rows : List (List AV)) (n : Nat) (hw : wfR 0 rows = true) : Call1 Tryd.prog 34 [.v (.int .i64 k), .slc 3 rows n] (.agg [.v (.int .i64 k), .v (.string ⟨#[]⟩), .slc 3 rows n]) := by
  (refine Call1.enter Tryd.func34 rfl (by kernel_rfl) (by kernel_rfl) rfl (by simp only [go_sem, wfL, AV.wf, Bool.and_self, Bool.and_true, Bool.true_and, hw]) (by simp only [go_sem, wfL, AV.wf, wf_encS, Bool.and_self, Bool.and_true, Bool.true_and, hw]) ?_; simp only [Tryd.ntmps34, Tryd.results34, List.length_cons, List.length_nil, Nat.reduceAdd, Nat.reduceSub, List.replicate_succ, List.replicate_zero, List.cons_append, List.nil_append])
  repeat' (first | (with_reducible first | refine Stp.up ?_ | refine fun (K : AS → Prop) hK => ?_ | refine wE ?_ | refine wD ?_ | refine wK ?_ | refine wF ?_ | refine adrawG_k (by decide) ?_ | refine adrawG_e (by decide) ?_ | (refine hK _ ?_; clear hK; clear K)) | simp only [go_sem] | (with_reducible refine And.intro (by omega) ?_) | (clear hK; clear K) | (with_reducible refine ACallV.one (by assumption) ?_) | (with_reducible refine ACallS.one (by assumption) ?_) | (refine AIf.part (fun hb => ?_) (fun hb => ?_) <;> simp only [hb, go_sem]) | (refine AIf.part (fun hb => ?_) (fun hb => ?_)) | (with_reducible refine ABoth.mk ?_ ?_))
  refine AFz.of 40 rfl ?_
  simp only [go_sem, hw]
set_option maxRecDepth 100000 in
theorem llabel08_c (s : ByteArray) : Call1 Tryd.prog 35 [.v (.string s)] (.agg [.v (.int .i64 1), .v (.string s), .v (.slice none 0 0)]) := by
  (refine Call1.enter Tryd.func35 rfl (by kernel_rfl) (by kernel_rfl) rfl (by first | rfl | (simp only [go_sem, Bool.and_self, Bool.and_true, Bool.true_and])) (by first | rfl | (simp only [go_sem, Bool.and_self, Bool.and_true, Bool.true_and])) ?_; simp only [Tryd.ntmps35, Tryd.results35, List.length_cons, List.length_nil, Nat.reduceAdd, Nat.reduceSub, List.replicate_succ, List.replicate_zero, List.cons_append, List.nil_append])
  repeat' (first | (with_reducible first | refine Stp.up ?_ | refine fun (K : AS → Prop) hK => ?_ | refine wE ?_ | refine wD ?_ | refine wK ?_ | refine wF ?_ | refine adrawG_k (by decide) ?_ | refine adrawG_e (by decide) ?_ | (refine hK _ ?_; clear hK; clear K)) | simp only [go_sem] | (with_reducible refine And.intro (by omega) ?_) | (clear hK; clear K) | (with_reducible refine ACallV.one (by assumption) ?_) | (with_reducible refine ACallS.one (by assumption) ?_) | (refine AIf.part (fun hb => ?_) (fun hb => ?_) <;> simp only [hb, go_sem]) | (refine AIf.part (fun hb => ?_) (fun hb => ?_)) | (with_reducible refine ABoth.mk ?_ ?_))
  (refine AFz.of 40 rfl ?_; simp only [go_sem])
end Go.Proofs.YtmdkgajjekbanaaDoor
