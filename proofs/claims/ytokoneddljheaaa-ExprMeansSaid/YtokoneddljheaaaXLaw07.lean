/- kinescopelaw07: how great expressions are, the example: the walks. -/
import Derived.Test.YtokoneddljheaaaXExprC
set_option linter.unusedSimpArgs false
set_option linter.unusedVariables false
namespace Go.Proofs.Ytokoneddljheaaa
open Go.RowKit

mutual
/-- how many parts, as far as 301, so deep -/
def sX : Ex → Nat → Nat
  | .mk _ _ l, deep => if 60 < deep then 301 else sL l (deep + 1) 1
def sL : List Ex → Nat → Nat → Nat
  | [], _, n => n
  | x :: xs, d, n => if n ≤ 300 then sL xs d (n + sX x d) else n
end
theorem sL_take : ∀ (l : List Ex) (d n k : Nat) (h : k < l.length), sL (l.take k) d n ≤ 300 → sL (l.take (k + 1)) d n = sL (l.take k) d n + sX l[k] d
  | [], _, _, _, h, _ => by simp at h
  | x :: xs, d, n, 0, _, hn => by
    simp only [List.take_zero, sL] at hn ⊢
    simp [sL, hn]
  | x :: xs, d, n, k + 1, h, hn => by
    simp only [List.take_succ_cons, sL, List.getElem_cons_succ] at hn ⊢
    by_cases hc : n ≤ 300
    · rw [if_pos hc] at hn ⊢
      rw [if_pos hc]
      exact sL_take xs d _ k (by simpa using h) hn
    · rw [if_neg hc] at hn; omega
theorem sL_stop : ∀ (l : List Ex) (d n k : Nat), 300 < sL (l.take k) d n → sL l d n = sL (l.take k) d n
  | [], _, _, _, _ => by simp
  | x :: xs, d, n, 0, hn => by
    simp only [List.take_zero, sL] at hn ⊢
    rw [if_neg (by omega)]
  | x :: xs, d, n, k + 1, hn => by
    simp only [List.take_succ_cons, sL] at hn ⊢
    by_cases hc : n ≤ 300
    · rw [if_pos hc] at hn ⊢
      rw [if_pos hc]
      exact sL_stop xs d _ k hn
    · rw [if_neg hc, if_neg hc]
mutual
theorem sX_rng : ∀ (x : Ex) (d : Nat), d ≤ 61 → 1 ≤ sX x d ∧ sX x d ≤ 301 + 300 * (61 - d)
  | .mk _ _ l, d, h => by
    rw [sX]
    split
    · omega
    · have := sL_rng l (d + 1) 1 (by omega); omega
theorem sL_rng : ∀ (l : List Ex) (d n : Nat), d ≤ 61 → n ≤ sL l d n ∧ sL l d n ≤ max n (601 + 300 * (61 - d))
  | [], d, n, h => by rw [sL]; omega
  | x :: xs, d, n, h => by
    rw [sL]
    split
    · have h1 := sX_rng x d h
      have h2 := sL_rng xs d (n + sX x d) h
      omega
    · omega
end
set_option maxRecDepth 100000 in
set_option maxHeartbeats 4000000 in
theorem lsize07_c (x : Ex) : ∀ d : Nat, d ≤ 61 → Call1 Try.prog 40 [.agg (encE x), .v (.int .i64 d)] (.v (.int .i64 (sX x d : Nat))) := by
  induction x using Ex.ind with
  | h k s l ih =>
    intro d hd61
    simp only [encE_eq, sX, Ex.kind, Ex.label, Ex.kids]
    by_cases hdd : 60 < d
    · rw [if_pos hdd]
      have hd0 : decide (60 < (d : Int)) = true := decide_eq_true (by omega)
      (refine Call1.enter Try.func40 rfl (by kernel_rfl) (by kernel_rfl) rfl (by first | rfl | (simp only [go_sem, Bool.and_self, Bool.and_true, Bool.true_and])) (by first | rfl | (simp only [go_sem, Bool.and_self, Bool.and_true, Bool.true_and])) ?_; simp only [Try.ntmps40, Try.results40, List.length_cons, List.length_nil, Nat.reduceAdd, Nat.reduceSub, List.replicate_succ, List.replicate_zero, List.cons_append, List.nil_append])
      repeat (first | (with_reducible first | refine Stp.up ?_ | refine fun (K : AS → Prop) hK => ?_ | refine awp_drawE (by decide +kernel) (by kernel_rfl) ?_ | refine awp_draw (by kernel_rfl) (by decide) ?_ | refine awp_boxes (by kernel_rfl) (by kernel_rfl) (by kernel_rfl) ?_ | refine adrawE_k (by decide) ?_ | refine adrawE_eff (by decide) ?_ | refine abox_plain (by decide) ?_ | refine abox_al ?_ | refine abox_st ?_ | refine adrawG_k (by decide) ?_ | refine adrawG_e (by decide) ?_) | (with_reducible refine hK _ ?_; clear hK; clear K) | simp only [go_sem, Nat.reduceAdd, Nat.reduceSub, Nat.reduceMul, Nat.reduceLeDiff, Nat.reduceEqDiff, Nat.reduceLT, Int.reduceToNat, ↓reduceIte, reduceCtorEq, Int.reduceLE, Int.reduceLT, Int.reduceNeg, Int.reduceEq, Int.reduceBEq, Int.reduceBNe, hd0] | (with_reducible refine And.intro (by omega) ?_) | (clear hK; clear K))
      rfl
    · rw [if_neg hdd]
      have hd0 : decide (60 < (d : Int)) = false := decide_eq_false (by omega)
      have eD := wrap_succ (k := d) (by omega)
      (refine Call1.enter Try.func40 rfl (by kernel_rfl) (by kernel_rfl) rfl (by first | rfl | (simp only [go_sem, Bool.and_self, Bool.and_true, Bool.true_and])) (by first | rfl | (simp only [go_sem, Bool.and_self, Bool.and_true, Bool.true_and])) ?_; simp only [Try.ntmps40, Try.results40, List.length_cons, List.length_nil, Nat.reduceAdd, Nat.reduceSub, List.replicate_succ, List.replicate_zero, List.cons_append, List.nil_append])
      repeat (first | (with_reducible first | refine Stp.up ?_ | refine fun (K : AS → Prop) hK => ?_ | refine awp_drawE (by decide +kernel) (by kernel_rfl) ?_ | refine awp_draw (by kernel_rfl) (by decide) ?_ | refine awp_boxes (by kernel_rfl) (by kernel_rfl) (by kernel_rfl) ?_ | refine adrawE_k (by decide) ?_ | refine adrawE_eff (by decide) ?_ | refine abox_plain (by decide) ?_ | refine abox_al ?_ | refine abox_st ?_ | refine adrawG_k (by decide) ?_ | refine adrawG_e (by decide) ?_) | (with_reducible refine hK _ ?_; clear hK; clear K) | simp only [go_sem, Nat.reduceAdd, Nat.reduceSub, Nat.reduceMul, Nat.reduceLeDiff, Nat.reduceEqDiff, Nat.reduceLT, Int.reduceToNat, ↓reduceIte, reduceCtorEq, Int.reduceLE, Int.reduceLT, Int.reduceNeg, Int.reduceEq, Int.reduceBEq, Int.reduceBNe, hd0] | (with_reducible refine And.intro (by omega) ?_) | (clear hK; clear K))
      refine awp_loopK (ι := Nat) 9 (fun i => [(5, .v (.int .i64 (sL (l.take i) (d + 1) 1 : Nat))), (6, .v (.int .i64 i))]) (fun i => l.length - i) (fun i => i ≤ l.length ∧ i + 1 ≤ sL (l.take i) (d + 1) 1) 0 ⟨Nat.zero_le _, Nat.le_refl _⟩ ?_ ?_
      · (refine wk_mk ?_ ?_ ?_ <;> simp only [frm, List.foldl_cons, List.foldl_nil, List.replicate_succ, List.replicate_zero, WkT, WkO, AV.v.injEq, Value.int.injEq, Value.bool.injEq, Value.string.injEq, AV.vec.injEq, AV.ptr.injEq, true_or, or_true, false_or, or_false, AObj.mk.injEq, forall_eq_apply_imp_iff, forall_eq, forall_eq', go_sem, Nat.reduceAdd, Nat.reduceSub, Nat.reduceMul, Nat.reduceLeDiff, Nat.reduceEqDiff, Nat.reduceLT, Int.reduceToNat, ↓reduceIte, reduceCtorEq, Int.reduceLE, Int.reduceLT, Int.reduceNeg, Int.reduceEq, Int.reduceBEq, Int.reduceBNe])
        exact ⟨rfl, rfl⟩
      rintro i ⟨hi, hin⟩ K hK
      have hr := sL_rng (l.take i) (d + 1) 1 (by omega)
      repeat (first | (with_reducible first | refine Stp.up ?_ | refine fun (K : AS → Prop) hK => ?_ | refine awp_drawE (by decide +kernel) (by kernel_rfl) ?_ | refine awp_draw (by kernel_rfl) (by decide) ?_ | refine awp_boxes (by kernel_rfl) (by kernel_rfl) (by kernel_rfl) ?_ | refine adrawE_k (by decide) ?_ | refine adrawE_eff (by decide) ?_ | refine abox_plain (by decide) ?_ | refine abox_al ?_ | refine abox_st ?_ | refine adrawG_k (by decide) ?_ | refine adrawG_e (by decide) ?_) | (with_reducible refine hK _ ?_; clear hK; clear K) | simp only [go_sem, Nat.reduceAdd, Nat.reduceSub, Nat.reduceMul, Nat.reduceLeDiff, Nat.reduceEqDiff, Nat.reduceLT, Int.reduceToNat, ↓reduceIte, reduceCtorEq, Int.reduceLE, Int.reduceLT, Int.reduceNeg, Int.reduceEq, Int.reduceBEq, Int.reduceBNe] | (with_reducible refine And.intro (by omega) ?_) | (clear hK; clear K))
      refine AIf.part (fun h => ?_) (fun h => ?_)
      · have hlt : i < l.length := by (try simp only [bne_iff_ne, ne_eq, bne_eq_false_iff_eq, beq_iff_eq, beq_eq_false_iff_ne, decide_eq_true_eq, decide_eq_false_iff_not, Bool.not_eq_true', Bool.not_eq_false', Bool.not_eq_eq_eq_not, Bool.not_true, Bool.not_false, Int.natCast_inj, Int.ofNat_lt, Int.ofNat_le] at h); omega
        by_cases hb2 : sL (l.take i) (d + 1) 1 ≤ 300
        · have eW := wrap_succ (k := i) (by omega)
          have eG := getD_map encE l i [] hlt
          have HX := ih l[i] (List.getElem_mem hlt) (d + 1) (by omega)
          have eT := sL_take l (d + 1) 1 i hlt hb2
          have hr2 := sX_rng l[i] (d + 1) (by omega)
          have hd : decide (((sL (l.take i) (d + 1) 1 : Nat) : Int) ≤ 300) = true := decide_eq_true (by omega)
          have eS : IntKind.i64.wrap (((sL (l.take i) (d + 1) 1 : Nat) : Int) + ((sX l[i] (d + 1) : Nat) : Int)) = ((sL (l.take (i + 1)) (d + 1) 1 : Nat) : Int) := by rw [wrap_id (by omega) (by omega), eT]; omega
          simp only [encE_eq] at HX eG
          repeat (first | (with_reducible first | refine Stp.up ?_ | refine fun (K : AS → Prop) hK => ?_ | refine awp_drawE (by decide +kernel) (by kernel_rfl) ?_ | refine awp_draw (by kernel_rfl) (by decide) ?_ | refine awp_boxes (by kernel_rfl) (by kernel_rfl) (by kernel_rfl) ?_ | refine adrawE_k (by decide) ?_ | refine adrawE_eff (by decide) ?_ | refine abox_plain (by decide) ?_ | refine abox_al ?_ | refine abox_st ?_ | refine adrawG_k (by decide) ?_ | refine adrawG_e (by decide) ?_) | (with_reducible refine hK _ ?_; clear hK; clear K) | simp only [go_sem, Nat.reduceAdd, Nat.reduceSub, Nat.reduceMul, Nat.reduceLeDiff, Nat.reduceEqDiff, Nat.reduceLT, Int.reduceToNat, ↓reduceIte, reduceCtorEq, Int.reduceLE, Int.reduceLT, Int.reduceNeg, Int.reduceEq, Int.reduceBEq, Int.reduceBNe, hd, h, eG, encE_eq, eD] | (with_reducible refine And.intro (by omega) ?_) | (clear hK; clear K))
          refine ACallV.one HX ?_
          repeat (first | (with_reducible first | refine Stp.up ?_ | refine fun (K : AS → Prop) hK => ?_ | refine awp_drawE (by decide +kernel) (by kernel_rfl) ?_ | refine awp_draw (by kernel_rfl) (by decide) ?_ | refine awp_boxes (by kernel_rfl) (by kernel_rfl) (by kernel_rfl) ?_ | refine adrawE_k (by decide) ?_ | refine adrawE_eff (by decide) ?_ | refine abox_plain (by decide) ?_ | refine abox_al ?_ | refine abox_st ?_ | refine adrawG_k (by decide) ?_ | refine adrawG_e (by decide) ?_) | (with_reducible refine hK _ ?_; clear hK; clear K) | simp only [go_sem, Nat.reduceAdd, Nat.reduceSub, Nat.reduceMul, Nat.reduceLeDiff, Nat.reduceEqDiff, Nat.reduceLT, Int.reduceToNat, ↓reduceIte, reduceCtorEq, Int.reduceLE, Int.reduceLT, Int.reduceNeg, Int.reduceEq, Int.reduceBEq, Int.reduceBNe, eS, eW] | (with_reducible refine And.intro (by omega) ?_) | (clear hK; clear K))
          exact LNext.mk (i + 1) ⟨by omega, by omega⟩ (by omega) (by (refine wk_mk ?_ ?_ ?_ <;> simp only [frm, List.foldl_cons, List.foldl_nil, List.replicate_succ, List.replicate_zero, WkT, WkO, AV.v.injEq, Value.int.injEq, Value.bool.injEq, Value.string.injEq, AV.vec.injEq, AV.ptr.injEq, true_or, or_true, false_or, or_false, AObj.mk.injEq, forall_eq_apply_imp_iff, forall_eq, forall_eq', go_sem, Nat.reduceAdd, Nat.reduceSub, Nat.reduceMul, Nat.reduceLeDiff, Nat.reduceEqDiff, Nat.reduceLT, Int.reduceToNat, ↓reduceIte, reduceCtorEq, Int.reduceLE, Int.reduceLT, Int.reduceNeg, Int.reduceEq, Int.reduceBEq, Int.reduceBNe]))
        · have eT := sL_stop l (d + 1) 1 i (by omega)
          have hd : decide (((sL (l.take i) (d + 1) 1 : Nat) : Int) ≤ 300) = false := decide_eq_false (by omega)
          repeat (first | (with_reducible first | refine Stp.up ?_ | refine fun (K : AS → Prop) hK => ?_ | refine awp_drawE (by decide +kernel) (by kernel_rfl) ?_ | refine awp_draw (by kernel_rfl) (by decide) ?_ | refine awp_boxes (by kernel_rfl) (by kernel_rfl) (by kernel_rfl) ?_ | refine adrawE_k (by decide) ?_ | refine adrawE_eff (by decide) ?_ | refine abox_plain (by decide) ?_ | refine abox_al ?_ | refine abox_st ?_ | refine adrawG_k (by decide) ?_ | refine adrawG_e (by decide) ?_) | (with_reducible refine hK _ ?_; clear hK; clear K) | simp only [go_sem, Nat.reduceAdd, Nat.reduceSub, Nat.reduceMul, Nat.reduceLeDiff, Nat.reduceEqDiff, Nat.reduceLT, Int.reduceToNat, ↓reduceIte, reduceCtorEq, Int.reduceLE, Int.reduceLT, Int.reduceNeg, Int.reduceEq, Int.reduceBEq, Int.reduceBNe, hd, h] | (with_reducible refine And.intro (by omega) ?_) | (clear hK; clear K))
          rw [eT]
      · have e1 : l.take i = l := by rw [show i = l.length by (try simp only [bne_iff_ne, ne_eq, bne_eq_false_iff_eq, beq_iff_eq, beq_eq_false_iff_ne, decide_eq_true_eq, decide_eq_false_iff_not, Bool.not_eq_true', Bool.not_eq_false', Bool.not_eq_eq_eq_not, Bool.not_true, Bool.not_false, Int.natCast_inj, Int.ofNat_lt, Int.ofNat_le] at h); omega, List.take_length]
        repeat (first | (with_reducible first | refine Stp.up ?_ | refine fun (K : AS → Prop) hK => ?_ | refine awp_drawE (by decide +kernel) (by kernel_rfl) ?_ | refine awp_draw (by kernel_rfl) (by decide) ?_ | refine awp_boxes (by kernel_rfl) (by kernel_rfl) (by kernel_rfl) ?_ | refine adrawE_k (by decide) ?_ | refine adrawE_eff (by decide) ?_ | refine abox_plain (by decide) ?_ | refine abox_al ?_ | refine abox_st ?_ | refine adrawG_k (by decide) ?_ | refine adrawG_e (by decide) ?_) | (with_reducible refine hK _ ?_; clear hK; clear K) | simp only [go_sem, Nat.reduceAdd, Nat.reduceSub, Nat.reduceMul, Nat.reduceLeDiff, Nat.reduceEqDiff, Nat.reduceLT, Int.reduceToNat, ↓reduceIte, reduceCtorEq, Int.reduceLE, Int.reduceLT, Int.reduceNeg, Int.reduceEq, Int.reduceBEq, Int.reduceBNe, e1, h] | (with_reducible refine And.intro (by omega) ?_) | (clear hK; clear K))
def grN (a b : Ex) : Nat := if sX a 0 ≤ 300 then sX a 0 + sX b 0 else sX a 0
/-- more than is gone through -/
def greatB (w : List ByteArray) (a b : Ex) : Bool := decide (300 < grN a b) || decide (30 < w.length)
set_option maxRecDepth 100000 in
set_option maxHeartbeats 4000000 in
theorem lgreat07_c (w : List ByteArray) (a b : Ex) : Call1 Try.prog 16 [strsA w, .slc 3 [encE a, encE b] 2] (.v (.bool (greatB w a b))) := by
  have A := lsize07_c a 0 (by omega)
  have B := lsize07_c b 0 (by omega)
  have ra := sX_rng a 0 (by omega)
  have rb := sX_rng b 0 (by omega)
  have c0 : ((0 : Nat) : Int) = 0 := rfl
  have c1 : ((1 : Nat) : Int) = 1 := rfl
  have c2 : ((2 : Nat) : Int) = 2 := rfl
  have w1 : IntKind.i64.wrap ((0 : Int) + 1) = 1 := rfl
  have w2 : IntKind.i64.wrap ((1 : Int) + 1) = 2 := rfl
  have s0 : IntKind.i64.wrap ((0 : Int) + ((sX a 0 : Nat) : Int)) = ((sX a 0 : Nat) : Int) := by rw [Int.zero_add]; exact wrap_id (by omega) (by omega)
  have s1 : IntKind.i64.wrap (((sX a 0 : Nat) : Int) + ((sX b 0 : Nat) : Int)) = ((sX a 0 + sX b 0 : Nat) : Int) := by rw [wrap_id (by omega) (by omega)]; omega
  simp only [encE_eq, strsA] at A B ⊢
  (refine Call1.enter Try.func16 rfl (by kernel_rfl) (by kernel_rfl) rfl (by first | rfl | (simp only [go_sem, Bool.and_self, Bool.and_true, Bool.true_and])) (by first | rfl | (simp only [go_sem, Bool.and_self, Bool.and_true, Bool.true_and])) ?_; simp only [Try.ntmps16, Try.results16, List.length_cons, List.length_nil, Nat.reduceAdd, Nat.reduceSub, List.replicate_succ, List.replicate_zero, List.cons_append, List.nil_append])
  repeat (first | (with_reducible first | refine Stp.up ?_ | refine fun (K : AS → Prop) hK => ?_ | refine awp_drawE (by decide +kernel) (by kernel_rfl) ?_ | refine awp_draw (by kernel_rfl) (by decide) ?_ | refine awp_boxes (by kernel_rfl) (by kernel_rfl) (by kernel_rfl) ?_ | refine adrawE_k (by decide) ?_ | refine adrawE_eff (by decide) ?_ | refine abox_plain (by decide) ?_ | refine abox_al ?_ | refine abox_st ?_ | refine adrawG_k (by decide) ?_ | refine adrawG_e (by decide) ?_) | (with_reducible refine hK _ ?_; clear hK; clear K) | simp only [go_sem, Nat.reduceAdd, Nat.reduceSub, Nat.reduceMul, Nat.reduceLeDiff, Nat.reduceEqDiff, Nat.reduceLT, Int.reduceToNat, ↓reduceIte, reduceCtorEq, Int.reduceLE, Int.reduceLT, Int.reduceNeg, Int.reduceEq, Int.reduceBEq, Int.reduceBNe] | (with_reducible refine And.intro (by omega) ?_) | (clear hK; clear K))
  refine awp_loopK (ι := Nat) 7 (fun i => [(5, .v (.int .i64 (if i = 0 then 0 else if i = 1 then sX a 0 else sX a 0 + sX b 0 : Nat))), (6, .v (.int .i64 i))]) (fun i => 2 - i) (fun i => i ≤ 2 ∧ (i = 2 → sX a 0 ≤ 300)) 0 (by omega) ?_ ?_
  · (refine wk_mk ?_ ?_ ?_ <;> simp only [frm, List.foldl_cons, List.foldl_nil, List.replicate_succ, List.replicate_zero, WkT, WkO, AV.v.injEq, Value.int.injEq, Value.bool.injEq, Value.string.injEq, AV.vec.injEq, AV.ptr.injEq, true_or, or_true, false_or, or_false, AObj.mk.injEq, forall_eq_apply_imp_iff, forall_eq, forall_eq', go_sem, Nat.reduceAdd, Nat.reduceSub, Nat.reduceMul, Nat.reduceLeDiff, Nat.reduceEqDiff, Nat.reduceLT, Int.reduceToNat, ↓reduceIte, reduceCtorEq, Int.reduceLE, Int.reduceLT, Int.reduceNeg, Int.reduceEq, Int.reduceBEq, Int.reduceBNe])
    all_goals first | rfl | exact ⟨rfl, rfl⟩
  rintro i ⟨hi, hi2⟩ K hK
  have hi3 : i = 0 ∨ i = 1 ∨ i = 2 := by omega
  have fin : ∀ n : Nat, grN a b = n → (Value.bool (decide (300 < (n : Int)) || decide (30 < (w.length : Int)))) = Value.bool (greatB w a b) := fun n hn => by
    refine congrArg Value.bool ?_
    rw [greatB, hn]
    congr 1
    · exact decide_eq_decide.2 (by omega)
    · exact decide_eq_decide.2 (by omega)
  rcases hi3 with hi0 | hi0 | hi0
  · repeat (first | (with_reducible first | refine Stp.up ?_ | refine fun (K : AS → Prop) hK => ?_ | refine awp_drawE (by decide +kernel) (by kernel_rfl) ?_ | refine awp_draw (by kernel_rfl) (by decide) ?_ | refine awp_boxes (by kernel_rfl) (by kernel_rfl) (by kernel_rfl) ?_ | refine adrawE_k (by decide) ?_ | refine adrawE_eff (by decide) ?_ | refine abox_plain (by decide) ?_ | refine abox_al ?_ | refine abox_st ?_ | refine adrawG_k (by decide) ?_ | refine adrawG_e (by decide) ?_) | (with_reducible refine hK _ ?_; clear hK; clear K) | simp only [go_sem, Nat.reduceAdd, Nat.reduceSub, Nat.reduceMul, Nat.reduceLeDiff, Nat.reduceEqDiff, Nat.reduceLT, Int.reduceToNat, ↓reduceIte, reduceCtorEq, Int.reduceLE, Int.reduceLT, Int.reduceNeg, Int.reduceEq, Int.reduceBEq, Int.reduceBNe, hi0, c0, c1, c2, decide_true, decide_false] | (with_reducible refine And.intro (by omega) ?_) | (clear hK; clear K))
    refine ACallV.one A ?_
    repeat (first | (with_reducible first | refine Stp.up ?_ | refine fun (K : AS → Prop) hK => ?_ | refine awp_drawE (by decide +kernel) (by kernel_rfl) ?_ | refine awp_draw (by kernel_rfl) (by decide) ?_ | refine awp_boxes (by kernel_rfl) (by kernel_rfl) (by kernel_rfl) ?_ | refine adrawE_k (by decide) ?_ | refine adrawE_eff (by decide) ?_ | refine abox_plain (by decide) ?_ | refine abox_al ?_ | refine abox_st ?_ | refine adrawG_k (by decide) ?_ | refine adrawG_e (by decide) ?_) | (with_reducible refine hK _ ?_; clear hK; clear K) | simp only [go_sem, Nat.reduceAdd, Nat.reduceSub, Nat.reduceMul, Nat.reduceLeDiff, Nat.reduceEqDiff, Nat.reduceLT, Int.reduceToNat, ↓reduceIte, reduceCtorEq, Int.reduceLE, Int.reduceLT, Int.reduceNeg, Int.reduceEq, Int.reduceBEq, Int.reduceBNe, s0, w1] | (with_reducible refine And.intro (by omega) ?_) | (clear hK; clear K))
    exact LNext.mk 1 ⟨by omega, fun h => by omega⟩ (by omega) (by (refine wk_mk ?_ ?_ ?_ <;> simp only [frm, List.foldl_cons, List.foldl_nil, List.replicate_succ, List.replicate_zero, WkT, WkO, AV.v.injEq, Value.int.injEq, Value.bool.injEq, Value.string.injEq, AV.vec.injEq, AV.ptr.injEq, true_or, or_true, false_or, or_false, AObj.mk.injEq, forall_eq_apply_imp_iff, forall_eq, forall_eq', go_sem, Nat.reduceAdd, Nat.reduceSub, Nat.reduceMul, Nat.reduceLeDiff, Nat.reduceEqDiff, Nat.reduceLT, Int.reduceToNat, ↓reduceIte, reduceCtorEq, Int.reduceLE, Int.reduceLT, Int.reduceNeg, Int.reduceEq, Int.reduceBEq, Int.reduceBNe]); rfl)
  · by_cases hb2 : sX a 0 ≤ 300
    · have hd : decide (((sX a 0 : Nat) : Int) ≤ 300) = true := decide_eq_true (by omega)
      repeat (first | (with_reducible first | refine Stp.up ?_ | refine fun (K : AS → Prop) hK => ?_ | refine awp_drawE (by decide +kernel) (by kernel_rfl) ?_ | refine awp_draw (by kernel_rfl) (by decide) ?_ | refine awp_boxes (by kernel_rfl) (by kernel_rfl) (by kernel_rfl) ?_ | refine adrawE_k (by decide) ?_ | refine adrawE_eff (by decide) ?_ | refine abox_plain (by decide) ?_ | refine abox_al ?_ | refine abox_st ?_ | refine adrawG_k (by decide) ?_ | refine adrawG_e (by decide) ?_) | (with_reducible refine hK _ ?_; clear hK; clear K) | simp only [go_sem, Nat.reduceAdd, Nat.reduceSub, Nat.reduceMul, Nat.reduceLeDiff, Nat.reduceEqDiff, Nat.reduceLT, Int.reduceToNat, ↓reduceIte, reduceCtorEq, Int.reduceLE, Int.reduceLT, Int.reduceNeg, Int.reduceEq, Int.reduceBEq, Int.reduceBNe, hi0, c0, c1, c2, decide_true, decide_false, hd] | (with_reducible refine And.intro (by omega) ?_) | (clear hK; clear K))
      refine ACallV.one B ?_
      repeat (first | (with_reducible first | refine Stp.up ?_ | refine fun (K : AS → Prop) hK => ?_ | refine awp_drawE (by decide +kernel) (by kernel_rfl) ?_ | refine awp_draw (by kernel_rfl) (by decide) ?_ | refine awp_boxes (by kernel_rfl) (by kernel_rfl) (by kernel_rfl) ?_ | refine adrawE_k (by decide) ?_ | refine adrawE_eff (by decide) ?_ | refine abox_plain (by decide) ?_ | refine abox_al ?_ | refine abox_st ?_ | refine adrawG_k (by decide) ?_ | refine adrawG_e (by decide) ?_) | (with_reducible refine hK _ ?_; clear hK; clear K) | simp only [go_sem, Nat.reduceAdd, Nat.reduceSub, Nat.reduceMul, Nat.reduceLeDiff, Nat.reduceEqDiff, Nat.reduceLT, Int.reduceToNat, ↓reduceIte, reduceCtorEq, Int.reduceLE, Int.reduceLT, Int.reduceNeg, Int.reduceEq, Int.reduceBEq, Int.reduceBNe, s1, w2] | (with_reducible refine And.intro (by omega) ?_) | (clear hK; clear K))
      exact LNext.mk 2 ⟨by omega, fun _ => hb2⟩ (by omega) (by (refine wk_mk ?_ ?_ ?_ <;> simp only [frm, List.foldl_cons, List.foldl_nil, List.replicate_succ, List.replicate_zero, WkT, WkO, AV.v.injEq, Value.int.injEq, Value.bool.injEq, Value.string.injEq, AV.vec.injEq, AV.ptr.injEq, true_or, or_true, false_or, or_false, AObj.mk.injEq, forall_eq_apply_imp_iff, forall_eq, forall_eq', go_sem, Nat.reduceAdd, Nat.reduceSub, Nat.reduceMul, Nat.reduceLeDiff, Nat.reduceEqDiff, Nat.reduceLT, Int.reduceToNat, ↓reduceIte, reduceCtorEq, Int.reduceLE, Int.reduceLT, Int.reduceNeg, Int.reduceEq, Int.reduceBEq, Int.reduceBNe]); rfl)
    · have hd : decide (((sX a 0 : Nat) : Int) ≤ 300) = false := decide_eq_false (by omega)
      have hd2 : decide (300 < ((sX a 0 : Nat) : Int)) = true := decide_eq_true (by omega)
      have hf := fin (sX a 0) (by rw [grN, if_neg hb2])
      repeat (first | (with_reducible first | refine Stp.up ?_ | refine fun (K : AS → Prop) hK => ?_ | refine awp_drawE (by decide +kernel) (by kernel_rfl) ?_ | refine awp_draw (by kernel_rfl) (by decide) ?_ | refine awp_boxes (by kernel_rfl) (by kernel_rfl) (by kernel_rfl) ?_ | refine adrawE_k (by decide) ?_ | refine adrawE_eff (by decide) ?_ | refine abox_plain (by decide) ?_ | refine abox_al ?_ | refine abox_st ?_ | refine adrawG_k (by decide) ?_ | refine adrawG_e (by decide) ?_) | (with_reducible refine hK _ ?_; clear hK; clear K) | simp only [go_sem, Nat.reduceAdd, Nat.reduceSub, Nat.reduceMul, Nat.reduceLeDiff, Nat.reduceEqDiff, Nat.reduceLT, Int.reduceToNat, ↓reduceIte, reduceCtorEq, Int.reduceLE, Int.reduceLT, Int.reduceNeg, Int.reduceEq, Int.reduceBEq, Int.reduceBNe, hi0, c0, c1, c2, decide_true, decide_false, hd, hd2, Go.undef] | (with_reducible refine And.intro (by omega) ?_) | (clear hK; clear K))
      rw [← hf, hd2]; rfl
  · have hb2 := hi2 hi0
    have hf := fin (sX a 0 + sX b 0) (by rw [grN, if_pos hb2])
    repeat (first | (with_reducible first | refine Stp.up ?_ | refine fun (K : AS → Prop) hK => ?_ | refine awp_drawE (by decide +kernel) (by kernel_rfl) ?_ | refine awp_draw (by kernel_rfl) (by decide) ?_ | refine awp_boxes (by kernel_rfl) (by kernel_rfl) (by kernel_rfl) ?_ | refine adrawE_k (by decide) ?_ | refine adrawE_eff (by decide) ?_ | refine abox_plain (by decide) ?_ | refine abox_al ?_ | refine abox_st ?_ | refine adrawG_k (by decide) ?_ | refine adrawG_e (by decide) ?_) | (with_reducible refine hK _ ?_; clear hK; clear K) | simp only [go_sem, Nat.reduceAdd, Nat.reduceSub, Nat.reduceMul, Nat.reduceLeDiff, Nat.reduceEqDiff, Nat.reduceLT, Int.reduceToNat, ↓reduceIte, reduceCtorEq, Int.reduceLE, Int.reduceLT, Int.reduceNeg, Int.reduceEq, Int.reduceBEq, Int.reduceBNe, hi0, c0, c1, c2, decide_true, decide_false] | (with_reducible refine And.intro (by omega) ?_) | (clear hK; clear K))
    rcases Bool.eq_false_or_eq_true (decide (300 < ((sX a 0 + sX b 0 : Nat) : Int))) with hg | hg
    · rw [hg] at hf
      repeat (first | (with_reducible first | refine Stp.up ?_ | refine fun (K : AS → Prop) hK => ?_ | refine awp_drawE (by decide +kernel) (by kernel_rfl) ?_ | refine awp_draw (by kernel_rfl) (by decide) ?_ | refine awp_boxes (by kernel_rfl) (by kernel_rfl) (by kernel_rfl) ?_ | refine adrawE_k (by decide) ?_ | refine adrawE_eff (by decide) ?_ | refine abox_plain (by decide) ?_ | refine abox_al ?_ | refine abox_st ?_ | refine adrawG_k (by decide) ?_ | refine adrawG_e (by decide) ?_) | (with_reducible refine hK _ ?_; clear hK; clear K) | simp only [go_sem, Nat.reduceAdd, Nat.reduceSub, Nat.reduceMul, Nat.reduceLeDiff, Nat.reduceEqDiff, Nat.reduceLT, Int.reduceToNat, ↓reduceIte, reduceCtorEq, Int.reduceLE, Int.reduceLT, Int.reduceNeg, Int.reduceEq, Int.reduceBEq, Int.reduceBNe, hg, Go.undef] | (with_reducible refine And.intro (by omega) ?_) | (clear hK; clear K))
      rw [← hf]; rfl
    · rw [hg] at hf
      repeat (first | (with_reducible first | refine Stp.up ?_ | refine fun (K : AS → Prop) hK => ?_ | refine awp_drawE (by decide +kernel) (by kernel_rfl) ?_ | refine awp_draw (by kernel_rfl) (by decide) ?_ | refine awp_boxes (by kernel_rfl) (by kernel_rfl) (by kernel_rfl) ?_ | refine adrawE_k (by decide) ?_ | refine adrawE_eff (by decide) ?_ | refine abox_plain (by decide) ?_ | refine abox_al ?_ | refine abox_st ?_ | refine adrawG_k (by decide) ?_ | refine adrawG_e (by decide) ?_) | (with_reducible refine hK _ ?_; clear hK; clear K) | simp only [go_sem, Nat.reduceAdd, Nat.reduceSub, Nat.reduceMul, Nat.reduceLeDiff, Nat.reduceEqDiff, Nat.reduceLT, Int.reduceToNat, ↓reduceIte, reduceCtorEq, Int.reduceLE, Int.reduceLT, Int.reduceNeg, Int.reduceEq, Int.reduceBEq, Int.reduceBNe, hg] | (with_reducible refine And.intro (by omega) ?_) | (clear hK; clear K))
      rw [← hf]; rfl
theorem great_word {w : List ByteArray} {a b : Ex} (h : greatB w a b = false) : w.length ≤ 30 := by
  simp only [greatB, Bool.or_eq_false_iff, decide_eq_false_iff_not] at h
  omega
set_option maxRecDepth 100000 in
theorem lof07_c (k : Int) (rows : List (List AV)) (n : Nat) (hw : wfR 0 rows = true) : Call1 Try.prog 19 [.v (.int .i64 k), .slc 3 rows n] (.agg [.v (.int .i64 k), .v (.string ⟨#[]⟩), .slc 3 rows n]) := by
  (refine Call1.enter Try.func19 rfl (by kernel_rfl) (by kernel_rfl) rfl (by simp only [go_sem, wfL, AV.wf, Bool.and_self, Bool.and_true, Bool.true_and, hw]) (by simp only [go_sem, wfL, AV.wf, wf_encS, Bool.and_self, Bool.and_true, Bool.true_and, hw]) ?_; simp only [Try.ntmps19, Try.results19, List.length_cons, List.length_nil, Nat.reduceAdd, Nat.reduceSub, List.replicate_succ, List.replicate_zero, List.cons_append, List.nil_append])
  repeat' (first | (with_reducible first | refine Stp.up ?_ | refine fun (K : AS → Prop) hK => ?_ | refine awp_drawE (by decide +kernel) (by kernel_rfl) ?_ | refine awp_draw (by kernel_rfl) (by decide) ?_ | refine awp_boxes (by kernel_rfl) (by kernel_rfl) (by kernel_rfl) ?_ | refine adrawE_k (by decide) ?_ | refine adrawE_eff (by decide) ?_ | refine abox_plain (by decide) ?_ | refine abox_al ?_ | refine abox_st ?_ | refine adrawG_k (by decide) ?_ | refine adrawG_e (by decide) ?_) | (with_reducible refine hK _ ?_; clear hK; clear K) | simp only [go_sem, Nat.reduceAdd, Nat.reduceSub, Nat.reduceMul, Nat.reduceLeDiff, Nat.reduceEqDiff, Nat.reduceLT, Int.reduceToNat, ↓reduceIte, reduceCtorEq, Int.reduceLE, Int.reduceLT, Int.reduceNeg, Int.reduceEq, Int.reduceBEq, Int.reduceBNe] | (with_reducible refine And.intro (by omega) ?_) | (clear hK; clear K) | (with_reducible refine ACallV.one (by assumption) ?_) | (with_reducible refine ACallS.one (by assumption) ?_) | (refine AIf.part (fun hb => ?_) (fun hb => ?_) <;> simp only [hb, go_sem, Nat.reduceAdd, Nat.reduceSub, Nat.reduceMul, Nat.reduceLeDiff, Nat.reduceEqDiff, Nat.reduceLT, Int.reduceToNat, ↓reduceIte, reduceCtorEq, Int.reduceLE, Int.reduceLT, Int.reduceNeg, Int.reduceEq, Int.reduceBEq, Int.reduceBNe]) | (refine AIf.part (fun hb => ?_) (fun hb => ?_)) | (with_reducible refine ABoth.mk ?_ ?_))
  refine AFz.of 40 rfl ?_
  simp only [go_sem, hw]
set_option maxRecDepth 100000 in
theorem llabel07_c (s : ByteArray) : Call1 Try.prog 38 [.v (.string s)] (.agg [.v (.int .i64 1), .v (.string s), .v (.slice none 0 0)]) := by
  (refine Call1.enter Try.func38 rfl (by kernel_rfl) (by kernel_rfl) rfl (by first | rfl | (simp only [go_sem, Bool.and_self, Bool.and_true, Bool.true_and])) (by first | rfl | (simp only [go_sem, Bool.and_self, Bool.and_true, Bool.true_and])) ?_; simp only [Try.ntmps38, Try.results38, List.length_cons, List.length_nil, Nat.reduceAdd, Nat.reduceSub, List.replicate_succ, List.replicate_zero, List.cons_append, List.nil_append])
  repeat' (first | (with_reducible first | refine Stp.up ?_ | refine fun (K : AS → Prop) hK => ?_ | refine awp_drawE (by decide +kernel) (by kernel_rfl) ?_ | refine awp_draw (by kernel_rfl) (by decide) ?_ | refine awp_boxes (by kernel_rfl) (by kernel_rfl) (by kernel_rfl) ?_ | refine adrawE_k (by decide) ?_ | refine adrawE_eff (by decide) ?_ | refine abox_plain (by decide) ?_ | refine abox_al ?_ | refine abox_st ?_ | refine adrawG_k (by decide) ?_ | refine adrawG_e (by decide) ?_) | (with_reducible refine hK _ ?_; clear hK; clear K) | simp only [go_sem, Nat.reduceAdd, Nat.reduceSub, Nat.reduceMul, Nat.reduceLeDiff, Nat.reduceEqDiff, Nat.reduceLT, Int.reduceToNat, ↓reduceIte, reduceCtorEq, Int.reduceLE, Int.reduceLT, Int.reduceNeg, Int.reduceEq, Int.reduceBEq, Int.reduceBNe] | (with_reducible refine And.intro (by omega) ?_) | (clear hK; clear K) | (with_reducible refine ACallV.one (by assumption) ?_) | (with_reducible refine ACallS.one (by assumption) ?_) | (refine AIf.part (fun hb => ?_) (fun hb => ?_) <;> simp only [hb, go_sem, Nat.reduceAdd, Nat.reduceSub, Nat.reduceMul, Nat.reduceLeDiff, Nat.reduceEqDiff, Nat.reduceLT, Int.reduceToNat, ↓reduceIte, reduceCtorEq, Int.reduceLE, Int.reduceLT, Int.reduceNeg, Int.reduceEq, Int.reduceBEq, Int.reduceBNe]) | (refine AIf.part (fun hb => ?_) (fun hb => ?_)) | (with_reducible refine ABoth.mk ?_ ?_))
  (refine AFz.of 40 rfl ?_; simp only [go_sem, Nat.reduceAdd, Nat.reduceSub, Nat.reduceMul, Nat.reduceLeDiff, Nat.reduceEqDiff, Nat.reduceLT, Int.reduceToNat, ↓reduceIte, reduceCtorEq, Int.reduceLE, Int.reduceLT, Int.reduceNeg, Int.reduceEq, Int.reduceBEq, Int.reduceBNe])
/-! ### what words two expressions take, in plain Lean -/
theorem seq2_iff {a b : Ex} {s : ByteArray} {w : List ByteArray} : Lg (.mk 2 s [a, b]) w ↔ ∃ k, k < w.length + 1 ∧ Lg a (w.take k) ∧ Lg b (w.drop k) := by
  rw [Lg2]
  simp only [LgSeq]
  constructor
  · rintro ⟨u, v, rfl, h1, u', v', rfl, h2, rfl⟩
    exact ⟨u.length, by simp; omega, by simpa using h1, by simpa using h2⟩
  · rintro ⟨k, _, h1, h2⟩
    exact ⟨w.take k, w.drop k, (List.take_append_drop k w).symm, h1, w.drop k, [], by simp, h2, rfl⟩
theorem plus_iff {a : Ex} {s s' : ByteArray} {w : List ByteArray} : Lg (.mk 5 s [a]) w ↔ ∃ k, k < w.length + 1 ∧ Lg a (w.take k) ∧ Lg (.mk 4 s' [a]) (w.drop k) := by
  rw [Lg5]
  simp only [Lg4]
  constructor
  · rintro ⟨u, v, rfl, h1, h2⟩
    exact ⟨u.length, by simp; omega, by simpa using h1, by simpa using h2⟩
  · rintro ⟨k, _, h1, h2⟩
    exact ⟨w.take k, w.drop k, (List.take_append_drop k w).symm, h1, h2⟩
theorem star_iff {a : Ex} {s : ByteArray} {w : List ByteArray} : Lg (.mk 4 s [a]) w ↔ w = [] ∨ ∃ k, k < w.length + 1 ∧ 0 < k ∧ Lg a (w.take k) ∧ Lg (.mk 4 s [a]) (w.drop k) := by
  simp only [Lg4]
  constructor
  · intro h
    rcases h.inv with e | ⟨u, v, rfl, h1, h2, h3⟩
    · exact .inl e
    · have : 0 < u.length := by cases u <;> simp_all
      exact .inr ⟨u.length, by simp; omega, this, by simpa using h2, by simpa using h3⟩
  · rintro (rfl | ⟨k, h0, h1, h2, h3⟩)
    · exact .nil
    · rw [← List.take_append_drop k w]
      refine .cons _ _ ?_ h2 h3
      intro e
      have := congrArg List.length e
      rw [List.length_take, List.length_nil] at this
      omega
theorem exRight_mk {k : Int} {l : List Ex} (hk : partB k ⟨#[]⟩ l.length = true) (hl : ∀ x, x ∈ l → exRight x = true) (hn : (exsParts l).length ≤ 23) : exRight (.mk k ⟨#[]⟩ l) = true := by
  have h1 : (exParts (.mk k ⟨#[]⟩ l)).length ≤ 24 := by rw [exParts, List.length_cons]; omega
  simp only [exRight, Bool.and_eq_true, decide_eq_true_eq]
  refine ⟨h1, ?_⟩
  rw [exParts, List.all_cons, Bool.and_eq_true]
  refine ⟨hk, ?_⟩
  rw [exsParts_eq, List.all_eq_true]
  intro y hy
  obtain ⟨x, hx, hy⟩ := List.mem_flatMap.1 hy
  have := hl x hx
  simp only [exRight, Bool.and_eq_true, decide_eq_true_eq] at this
  exact List.all_eq_true.1 this.2 y hy
/-- parted at one of the first places -/
noncomputable def partAt (p q : List ByteArray → Bool) (w : List ByteArray) (n : Nat) : Bool := (List.range n).any (fun k => p (w.take k) && q (w.drop k))
theorem partAt_succ (p q : List ByteArray → Bool) (w : List ByteArray) (n : Nat) : partAt p q w (n + 1) = (partAt p q w n || (p (w.take n) && q (w.drop n))) := by
  rw [partAt, List.range_succ, List.any_append]; simp [partAt]
noncomputable def moreAt (p q : List ByteArray → Bool) (w : List ByteArray) (n : Nat) : Bool := decide (w.length = 0) || (List.range n).any (fun k => decide (0 < k) && p (w.take k) && q (w.drop k))
theorem moreAt_succ (p q : List ByteArray → Bool) (w : List ByteArray) (n : Nat) : moreAt p q w (n + 1) = (moreAt p q w n || (decide (0 < n) && p (w.take n) && q (w.drop n))) := by
  rw [moreAt, List.range_succ, List.any_append, moreAt, Bool.or_assoc]; simp
section
variable {a b : Ex} (ha : exRight a = true) (hb : exRight b = true) (na : (exParts a).length ≤ 11) (nb : (exParts b).length ≤ 11)
include ha hb na nb
theorem alt_takes (w : List ByteArray) : exTakes (.mk 3 ⟨#[]⟩ [a, b]) w = (exTakes a w || exTakes b w) := by
  have hr : exRight (.mk 3 ⟨#[]⟩ [a, b]) = true := exRight_mk (by rfl) (by simp [ha, hb]) (by simp [exsParts]; omega)
  rw [Bool.eq_iff_iff, Bool.or_eq_true, exTakes_iff, exTakes_iff, exTakes_iff, Lg3]
  simp [hr, ha, hb, LgAlt]
theorem seq_takes (w : List ByteArray) : exTakes (.mk 2 ⟨#[]⟩ [a, b]) w = partAt (exTakes a) (exTakes b) w (w.length + 1) := by
  have hr : exRight (.mk 2 ⟨#[]⟩ [a, b]) = true := exRight_mk (by rfl) (by simp [ha, hb]) (by simp [exsParts]; omega)
  rw [Bool.eq_iff_iff, exTakes_iff, seq2_iff, partAt, List.any_eq_true]
  simp only [List.mem_range, Bool.and_eq_true, exTakes_iff, hr, ha, hb, true_and]
omit hb nb
theorem star_right : exRight (.mk 4 ⟨#[]⟩ [a]) = true := exRight_mk (by rfl) (by simp [ha]) (by simp [exsParts]; omega)
theorem opt_takes (w : List ByteArray) : exTakes (.mk 6 ⟨#[]⟩ [a]) w = (decide (w.length = 0) || exTakes a w) := by
  have hr : exRight (.mk 6 ⟨#[]⟩ [a]) = true := exRight_mk (by rfl) (by simp [ha]) (by simp [exsParts]; omega)
  rw [Bool.eq_iff_iff, Bool.or_eq_true, exTakes_iff, exTakes_iff, Lg6]
  simp [hr, ha]
theorem plus_takes (w : List ByteArray) : exTakes (.mk 5 ⟨#[]⟩ [a]) w = partAt (exTakes a) (exTakes (.mk 4 ⟨#[]⟩ [a])) w (w.length + 1) := by
  have hr : exRight (.mk 5 ⟨#[]⟩ [a]) = true := exRight_mk (by rfl) (by simp [ha]) (by simp [exsParts]; omega)
  rw [Bool.eq_iff_iff, exTakes_iff, plus_iff (s' := ⟨#[]⟩), partAt, List.any_eq_true]
  simp only [List.mem_range, Bool.and_eq_true, exTakes_iff, hr, ha, star_right ha na, true_and]
theorem star_takes (w : List ByteArray) : exTakes (.mk 4 ⟨#[]⟩ [a]) w = moreAt (exTakes a) (exTakes (.mk 4 ⟨#[]⟩ [a])) w (w.length + 1) := by
  rw [Bool.eq_iff_iff, exTakes_iff, star_iff, moreAt, Bool.or_eq_true, List.any_eq_true]
  simp only [List.mem_range, Bool.and_eq_true, exTakes_iff, ha, star_right ha na, true_and, decide_eq_true_eq, List.length_eq_zero_iff, and_assoc]
end
end Go.Proofs.Ytokoneddljheaaa
