/- slices.Clone, Index, Contains, Grow, Concat for places. -/
import Derived.Test.YtfflpdekojlnmaaGreatDoorTSorts
import Derived.Test.YtfflpdekojlnmaaGreatDoorTTakes
import Derived.Shelf.Spec.SlicesGrow
set_option linter.unusedSimpArgs false
set_option linter.unusedVariables false
namespace Go.Proofs.YtfflpdekojlnmaaGreatDoor
open Go.RowKit

theorem wf_encNN (b : Nat) (l : List Nat) : wfR b (encN l) = true := wfR_map _ (fun _ => rfl) _
attribute [go_sem] wf_encNN
set_option maxRecDepth 100000 in
set_option maxHeartbeats 4000000 in
theorem clone_e (l : List Nat) (hl : l.length ≤ 1000000) (hne : l ≠ []) : CallE Tryz.prog 81 [.slc 1 (encN l) l.length] [] (.vec 0 l.length) [some ⟨3, 1, true, encN l⟩] := by
 have hpos : 0 < l.length := by cases l <;> simp_all
 have eL : (encN l).length = l.length := by simp [encN]
 (refine CallE.enter Tryz.func81 rfl (by kernel_rfl) (by kernel_rfl) rfl ?_; simp only [Tryz.ntmps81, Tryz.results81, List.length_cons, List.length_nil, Nat.reduceAdd, Nat.reduceSub, List.replicate_succ, List.replicate_zero, List.cons_append, List.nil_append])
 repeat (first | (with_reducible first | refine Stp.up ?_ | refine fun (K : AK) hK => ?_ | (refine hK _ ?_; clear hK K)) | simp only [go_sem, eL] | with_reducible refine wA ?_ | clear hK K)
 refine ⟨fun e => hne (by simpa [encN] using e), ?_⟩
 have eT : (encN l).take l.length = encN l := List.take_of_length_le (by omega)
 repeat (first | (with_reducible first | refine Stp.up ?_ | refine fun (K : AK) hK => ?_ | (refine hK _ ?_; clear hK K)) | simp only [go_sem, eL, eT] | with_reducible refine wA ?_ | clear hK K)
 (refine ⟨?_, ?_, ?_⟩ <;> simp only [WkT, WkO, AV.v.injEq, Value.int.injEq, Value.bool.injEq, Value.string.injEq, AV.vec.injEq, AV.ptr.injEq, true_or, or_true, false_or, or_false, AObj.mk.injEq, forall_eq_apply_imp_iff, forall_eq, forall_eq', go_sem])
theorem idxOf_le : ∀ (l : List Nat) (n i : Nat), l[i]? = some n → l.idxOf n ≤ i
 | [], n, i, h => by simp at h
 | x :: l, n, 0, h => by simp at h; subst h; simp
 | x :: l, n, i + 1, h => by
  have := idxOf_le l n i (by simpa using h)
  rw [List.idxOf_cons]
  cases x == n <;> simp only [cond_true, cond_false] <;> omega
set_option maxRecDepth 100000 in
set_option maxHeartbeats 4000000 in
theorem indexP_c (l : List Nat) (n : Nat) (hl : l.length ≤ 1000000) : ∃ k : Int, (decide (0 ≤ k) = l.contains n) ∧ Call1 Tryz.prog 77 [.slc 1 (encN l) l.length, .v (.int .i64 n)] (.v (.int .i64 k)) := by
 refine ⟨if l.contains n then (l.idxOf n : Int) else -1, by split <;> simp_all <;> omega, ?_⟩
 (refine Call1.enter Tryz.func77 rfl (by kernel_rfl) (by kernel_rfl) rfl (by first | rfl | (simp only [go_sem, Bool.and_self, Bool.and_true, Bool.true_and])) (by first | rfl | (simp only [go_sem, Bool.and_self, Bool.and_true, Bool.true_and])) ?_; simp only [Tryz.ntmps77, Tryz.results77, List.length_cons, List.length_nil, Nat.reduceAdd, Nat.reduceSub, List.replicate_succ, List.replicate_zero, List.cons_append, List.nil_append])
 repeat (first | (with_reducible first | refine Stp.up ?_ | refine fun (K : AK) hK => ?_ | (refine hK _ ?_; clear hK K)) | simp only [go_sem] | with_reducible refine wA ?_ | clear hK K)
 refine awp_loopK (ι := Nat) 8 (fun i => [(5, .undef), (8, .v (.int .i64 i))]) (fun i => l.length - i) (fun i => i ≤ l.length ∧ n ∉ l.take i) 0 ⟨Nat.zero_le _, by simp⟩ ?_ ?_
 ·(refine wk_mk ?_ ?_ ?_ <;> simp only [frm, List.foldl_cons, List.foldl_nil, List.replicate_succ, List.replicate_zero, WkT, WkO, AV.v.injEq, Value.int.injEq, Value.bool.injEq, Value.string.injEq, AV.vec.injEq, AV.ptr.injEq, true_or, or_true, false_or, or_false, AObj.mk.injEq, forall_eq_apply_imp_iff, forall_eq, forall_eq', go_sem])
  rfl
 rintro i ⟨hi, hn⟩ K hK
 repeat (first | (with_reducible first | refine Stp.up ?_ | refine fun (K : AK) hK => ?_ | (refine hK _ ?_; clear hK K)) | simp only [go_sem] | with_reducible refine wA ?_ | clear hK K)
 refine AIf.part (fun h => ?_) (fun h => ?_)
 ·have hlt : i < l.length := by (try simp only [bne_iff_ne, ne_eq, bne_eq_false_iff_eq, beq_iff_eq, beq_eq_false_iff_ne, decide_eq_true_eq, decide_eq_false_iff_not, Bool.not_eq_eq_eq_not, Int.natCast_inj, Int.ofNat_lt, Int.ofNat_le] at h); omega
  have eW := wrap_succ (k := i) (by omega)
  have eG : (encN l).getD i [] = [.v (.int .i64 (l[i] : Nat))] := by rw [encN, getD_map _ l i [] hlt]
  repeat (first | (with_reducible first | refine Stp.up ?_ | refine fun (K : AK) hK => ?_ | (refine hK _ ?_; clear hK K)) | simp only [go_sem, h, eG] | with_reducible refine wA ?_ | clear hK K)
  refine AIf.part (fun h2 => ?_) (fun h2 => ?_)
  ·have hc : n = l[i] := by (try simp only [bne_iff_ne, ne_eq, bne_eq_false_iff_eq, beq_iff_eq, beq_eq_false_iff_ne, decide_eq_true_eq, decide_eq_false_iff_not, Bool.not_eq_eq_eq_not, Int.natCast_inj, Int.ofNat_lt, Int.ofNat_le] at h2); omega
   have hm : l.contains n = true := by rw [List.contains_iff_mem, hc]; exact List.getElem_mem hlt
   have hx : l.idxOf n = i := by
    have h1 : l.idxOf n ≤ i := by
     exact idxOf_le l n i (by rw [hc]; exact List.getElem?_eq_getElem hlt)
    rcases Nat.lt_or_ge (l.idxOf n) i with q | q
    ·exfalso
     have hq : l.idxOf n < l.length := by omega
     refine hn (List.mem_take_iff_getElem.2 ⟨l.idxOf n, by omega, ?_⟩)
     exact List.getElem_idxOf hq
    ·omega
   repeat (first | (with_reducible first | refine Stp.up ?_ | refine fun (K : AK) hK => ?_ | (refine hK _ ?_; clear hK K)) | simp only [go_sem] | with_reducible refine wA ?_ | clear hK K)
   rw [hm, if_pos rfl, hx]
  ·have hc : n ≠ l[i] := by (try simp only [bne_iff_ne, ne_eq, bne_eq_false_iff_eq, beq_iff_eq, beq_eq_false_iff_ne, decide_eq_true_eq, decide_eq_false_iff_not, Bool.not_eq_eq_eq_not, Int.natCast_inj, Int.ofNat_lt, Int.ofNat_le] at h2); omega
   repeat (first | (with_reducible first | refine Stp.up ?_ | refine fun (K : AK) hK => ?_ | (refine hK _ ?_; clear hK K)) | simp only [go_sem, eW] | with_reducible refine wA ?_ | clear hK K)
   exact LNext.mk (i + 1) ⟨by omega, by
    rw [List.take_succ_eq_append_getElem hlt, List.mem_append]
    rintro (e | e)
    ·exact hn e
    ·exact hc (by simpa using e)⟩ (by omega) (by (refine wk_mk ?_ ?_ ?_ <;> simp only [frm, List.foldl_cons, List.foldl_nil, List.replicate_succ, List.replicate_zero, WkT, WkO, AV.v.injEq, Value.int.injEq, Value.bool.injEq, Value.string.injEq, AV.vec.injEq, AV.ptr.injEq, true_or, or_true, false_or, or_false, AObj.mk.injEq, forall_eq_apply_imp_iff, forall_eq, forall_eq', go_sem]))
 ·have hm : l.contains n = false := by
   have : i = l.length := by (try simp only [bne_iff_ne, ne_eq, bne_eq_false_iff_eq, beq_iff_eq, beq_eq_false_iff_ne, decide_eq_true_eq, decide_eq_false_iff_not, Bool.not_eq_eq_eq_not, Int.natCast_inj, Int.ofNat_lt, Int.ofNat_le] at h); omega
   rw [this, List.take_length] at hn
   rw [← Bool.not_eq_true, List.contains_iff_mem]; exact hn
  repeat (first | (with_reducible first | refine Stp.up ?_ | refine fun (K : AK) hK => ?_ | (refine hK _ ?_; clear hK K)) | simp only [go_sem] | with_reducible refine wA ?_ | clear hK K)
  rw [hm, if_neg (by decide)]
set_option maxRecDepth 100000 in
theorem containsP_c (l : List Nat) (n : Nat) (hl : l.length ≤ 1000000) : Call1 Tryz.prog 51 [.slc 1 (encN l) l.length, .v (.int .i64 n)] (.v (.bool (l.contains n))) := by
 obtain ⟨k, hk, C⟩ := indexP_c l n hl
 (refine Call1.enter Tryz.func51 rfl (by kernel_rfl) (by kernel_rfl) rfl (by first | rfl | (simp only [go_sem, Bool.and_self, Bool.and_true, Bool.true_and])) (by first | rfl | (simp only [go_sem, Bool.and_self, Bool.and_true, Bool.true_and])) ?_; simp only [Tryz.ntmps51, Tryz.results51, List.length_cons, List.length_nil, Nat.reduceAdd, Nat.reduceSub, List.replicate_succ, List.replicate_zero, List.cons_append, List.nil_append])
 repeat (first | (with_reducible first | refine Stp.up ?_ | refine fun (K : AK) hK => ?_ | (refine hK _ ?_; clear hK K)) | simp only [go_sem] | clear hK K)
 refine ACallV.one C ?_
 repeat (first | (with_reducible first | refine Stp.up ?_ | refine fun (K : AK) hK => ?_ | (refine hK _ ?_; clear hK K)) | simp only [go_sem] | clear hK K)
 rw [← hk]
def growRen : Go.Shelf.Ren := ⟨fun | 4 => 110 | n => n, fun | 22 => 91 | 25 => 3 | 3 => 3 | 4 => 4 | 9 => 9 | 20 => 20 | 0 => 0 | n => n, fun n => n⟩
theorem growLays : Lays8.n4 Tryz.prog growRen := {
 mixed := by kernel_rfl
 f4 := ⟨Tryz.f110.name, by decide, Tryz.func110⟩
 t0 := by kernel_rfl
 a0 := fun w => by kernel_rfl
 z0 := fun w => by kernel_rfl
 v0 := fun w => by kernel_rfl
 t3 := by kernel_rfl
 a3 := fun w => by kernel_rfl
 z3 := fun w => by kernel_rfl
 v3 := fun w => by kernel_rfl
 t4 := by kernel_rfl
 a4 := fun w => by kernel_rfl
 z4 := fun w => by kernel_rfl
 v4 := fun w => by kernel_rfl
 t9 := by kernel_rfl
 a9 := fun w => by kernel_rfl
 z9 := fun w => by kernel_rfl
 v9 := fun w => by kernel_rfl
 t20 := by kernel_rfl
 a20 := fun w => by kernel_rfl
 z20 := fun w => by kernel_rfl
 v20 := fun w => by kernel_rfl
 t22 := by kernel_rfl
 a22 := fun w => by kernel_rfl
 z22 := fun w => by kernel_rfl
 v22 := fun w => by kernel_rfl }
set_option maxRecDepth 100000 in
set_option maxHeartbeats 4000000 in
theorem grow_e (n : Nat) (hn : n ≤ 1000000) : CallE Tryz.prog 110 [.v (.slice none 0 0), .v (.int .i64 n)] [] (.vec 0 0) [some ⟨3, 1, true, []⟩] := by
 refine ⟨by kernel_rfl, fun D nu w vargs hro hra => ?_⟩
 obtain ⟨x, y, rfl, hx, hy⟩ := ras_two hra
 obtain rfl := hx.v_eq
 obtain rfl := hy.v_eq
 have fin : ∀ (v : Value) (w' : World), Below w.heap.size w w' → (∀ b, blkM v = some b → w.heap.size ≤ b) → v.oneCell' = true → ((true = true ∧ ([] : List (List AV)) = [] ∧ v = .slice none 0 0) ∨ (∃ g cur, ROb D (updN nu 0 v) ([] ++ [some ⟨3, 1, true, []⟩]) w' 0 ⟨3, 1, true, []⟩ g cur) ∨ ∃ g es cl, ROm D (updN nu 0 v) ([] ++ [some ⟨3, 1, true, []⟩]) w' 0 ⟨3, 1, true, []⟩ g es cl) →
   FinG D nu [] w (fun r' o'' => r' = AV.vec 0 0 ∧ o'' = [some ⟨3, 1, true, []⟩]) (.returned v) w' := fun v w' hb hv hone hob => by
  have hpm := push_mono (nu := nu) (o := []) (ob := ⟨3, 1, true, []⟩) hb hv
  have hpr := push_RO (ob := ⟨3, 1, true, []⟩) hro hb hv hob
  simp only [List.length_nil, List.nil_append] at hpm hpr
  refine ⟨v, updN nu 0 v, _, _, rfl, hpm, hpr, ?_, rfl, rfl⟩
  have := RA.vec (D := D) (nu := updN nu 0 v) (o := [some (⟨3, 1, true, []⟩ : AObj)]) (w := w') 0 0 ⟨_, rfl, fun x _ => Nat.zero_le _⟩ (by rw [show updN nu 0 v 0 0 = v from updN_new _ _ _ _]; exact hone)
  rw [show updN nu 0 v 0 0 = v from updN_new _ _ _ _] at this
  exact this
 rcases Nat.eq_zero_or_pos n with h0 | h0
 ·subst h0
  have hG := Any8.slices_Grow_room (P := Tryz.prog) (ρ := growRen) growLays none 0 0 0 w (by omega) (by omega) (by omega) (by omega)
  change Calls Tryz.prog 110 _ _ _ at hG
  refine hG.mono ?_
  rintro e w' ⟨rfl, rfl⟩
  exact fin _ _ (.refl _ _) (fun b e => by cases e) rfl (.inl ⟨rfl, rfl, rfl⟩)
 ·have hi : (Tryz.prog.info? 3).map (fun i => (i.zero, i.size, i.bytes)) = some (some (.int .i64 0), 1, 8) := by kernel_rfl
  obtain ⟨i0, hi0, hi1⟩ := Option.map_eq_some_iff.1 hi
  simp only [Prod.mk.injEq] at hi1
  obtain ⟨hz0, hs0, hb0⟩ := hi1
  have hG := Any8.slices_Grow_grow (P := Tryz.prog) (ρ := growRen) growLays i0 (.int .i64 0) hi0 hz0 (by omega) none 0 0 n [] w (by omega) (by omega) (by rw [hb0]; omega) (by omega) (by simp) (fun _ => rfl) (fun a e => by cases e)
  change Calls Tryz.prog 110 _ _ _ at hG
  refine hG.mono ?_
  rintro e w' ⟨rfl, rfl⟩
  have hge := grownCap_ge w (0 + n) 0 (growRen.t 25)
  have hle := grownCap_le_maxLen w (0 + n) 0 (growRen.t 25) (by unfold maxLen; omega)
  generalize hGc : grownCap w (0 + n) 0 (growRen.t 25) = G at hge hle ⊢
  have hbl : Below w.heap.size w (w.drew.alloc (.cells (#[] ++ Builtin.zeroCells (Value.int .i64 0).cells (0 + n - 0) ++ Builtin.zeroCells (Value.int .i64 0).cells (G - (0 + n))) (growRen.t 25))) := (below_drew w).alloc (by simp) _
  refine fin _ _ hbl (fun b e => by cases e; exact Nat.le_refl _) rfl (.inr (.inl ⟨w.heap.size, (#[] ++ Builtin.zeroCells (Value.int .i64 0).cells (0 + n - 0) ++ Builtin.zeroCells (Value.int .i64 0).cells (G - (0 + n))), ?_⟩))
  refine ⟨?_, hro.up _ (Nat.le_refl _), (fun e => by cases e), fun _ => ⟨G, ?_, Nat.zero_le _, hle, ?_⟩, Nat.zero_lt_one, fun i r hi => by simp at hi, fun i j r c x k1 => by simp at k1, fun i j r c x k1 => by simp at k1⟩
  ·exact heap_new w.drew _
  ·rw [show updN nu 0 (Value.slice (some ⟨w.heap.size, 0, none⟩) 0 G) 0 ([] : List (List AV)).length = _ from updN_new _ _ _ _]; rfl
  ·simp [size_zeroCells, Value.cells]; omega
set_option maxRecDepth 100000 in
theorem clone_0 : Call1 Tryz.prog 81 [.slc 1 [] 0] (.slc 1 [] 0) := by
 refine ⟨⟨rfl, rfl⟩, by kernel_rfl, fun D nu w vargs hro hra => ?_⟩
 obtain ⟨x, rfl, hx⟩ := ras_one hra
 obtain ⟨a, c, rfl⟩ := ra_empty hx
 have key : Calls Tryz.prog 81 #[.slice a 0 c] w (fun e w' => ∃ b, e = .returned (.slice b 0 0) ∧ Below w.heap.size w w') := by
  have hq : ∀ w, (binOp .eql 91 (.slice a 0 c) (.slice none 0 0)).run Tryz.prog w = .ok (.bool a.isNone) w := fun w => (sl_nil (by kernel_rfl)).1
  have HB := Lib.hid (fun ob => ((Below.refl w.heap.size w).alloc (Nat.le_refl _) ob))
  cases a with
  | none =>
   clear hx hra hro
   go_enter Tryz.func81, Tryz.ntmps81
   go_wp2
   go_ret
   exact ⟨none, rfl, .refl _ _⟩
  | some a =>
   clear hx hra hro
   go_enter Tryz.func81, Tryz.ntmps81
   go_wp2
   go_ret
   exact ⟨some _, rfl, HB.out _⟩
 refine key.mono ?_
 rintro e w' ⟨b, rfl, hb⟩
 refine ⟨_, nu, [], .slc 1 [] 0, rfl, mono_below hb, hro.below hb, ?_, rfl, rfl⟩
 cases b with
 | none => exact .slcNil 1
 | some b => exact .slcOdd 1 b
set_option maxRecDepth 100000 in
set_option maxHeartbeats 4000000 in
theorem concat_e (a b : List Nat) (ha : a.length ≤ 400000) (hb : b.length ≤ 400000) : CallE Tryz.prog 78 [.slc 1 [[.slc 1 (encN a) a.length], [.slc 1 (encN b) b.length]] 2] [] (.vec 0 (a ++ b).length) [some ⟨3, 1, true, encN (a ++ b)⟩] := by
 have G := grow_e (a.length + b.length) (by omega)
 have c0 : ((0 : Nat) : Int) = 0 := rfl
 have c1 : ((1 : Nat) : Int) = 1 := rfl
 have c2 : ((2 : Nat) : Int) = 2 := rfl
 have w1 : IntKind.i64.wrap ((0 : Int) + 1) = 1 := rfl
 have w2 : IntKind.i64.wrap ((1 : Int) + 1) = 2 := rfl
 have s0 : IntKind.i64.wrap ((0 : Int) + (a.length : Int)) = (a.length : Int) := by rw [Int.zero_add]; exact wrap_id (by omega) (by omega)
 have s1 : IntKind.i64.wrap ((a.length : Int) + (b.length : Int)) = ((a.length + b.length : Nat) : Int) := by rw [wrap_id (by omega) (by omega)]; omega
 have n0 : decide ((a.length : Int) < 0) = false := decide_eq_false (by omega)
 have n1 : decide (((a.length + b.length : Nat) : Int) < 0) = false := decide_eq_false (by omega)
 (refine CallE.enter Tryz.func78 rfl (by kernel_rfl) (by kernel_rfl) rfl ?_; simp only [Tryz.ntmps78, Tryz.results78, List.length_cons, List.length_nil, Nat.reduceAdd, Nat.reduceSub, List.replicate_succ, List.replicate_zero, List.cons_append, List.nil_append])
 repeat (first | (with_reducible first | refine Stp.up ?_ | refine fun (K : AK) hK => ?_ | (refine hK _ ?_; clear hK K)) | simp only [go_sem] | with_reducible refine wA ?_ | clear hK K)
 refine awp_loopK (ι := Nat) 11 (fun i => [(3, .v (.int .i64 (if i = 0 then 0 else if i = 1 then a.length else a.length + b.length : Nat))), (5, .undef), (11, .v (.int .i64 i))]) (fun i => 2 - i) (fun i => i ≤ 2) 0 (by omega) ?_ ?_
 ·(refine wk_mk ?_ ?_ ?_ <;> simp only [frm, List.foldl_cons, List.foldl_nil, List.replicate_succ, List.replicate_zero, WkT, WkO, AV.v.injEq, Value.int.injEq, Value.bool.injEq, Value.string.injEq, AV.vec.injEq, AV.ptr.injEq, true_or, or_true, false_or, or_false, AObj.mk.injEq, forall_eq_apply_imp_iff, forall_eq, forall_eq', go_sem])
  all_goals first | rfl | exact ⟨rfl, rfl⟩
 rintro i hi K hK
 have hi3 : i = 0 ∨ i = 1 ∨ i = 2 := by omega
 rcases hi3 with hi0 | hi0 | hi0
 ·repeat (first | (with_reducible first | refine Stp.up ?_ | refine fun (K : AK) hK => ?_ | (refine hK _ ?_; clear hK K)) | simp only [go_sem, hi0, c0, c1, c2, decide_true, decide_false, w1, s0, n0] | with_reducible refine wA ?_ | clear hK K)
  exact LNext.mk 1 (by omega) (by omega) (by (refine wk_mk ?_ ?_ ?_ <;> simp only [frm, List.foldl_cons, List.foldl_nil, List.replicate_succ, List.replicate_zero, WkT, WkO, AV.v.injEq, Value.int.injEq, Value.bool.injEq, Value.string.injEq, AV.vec.injEq, AV.ptr.injEq, true_or, or_true, false_or, or_false, AObj.mk.injEq, forall_eq_apply_imp_iff, forall_eq, forall_eq', go_sem]); rfl)
 ·repeat (first | (with_reducible first | refine Stp.up ?_ | refine fun (K : AK) hK => ?_ | (refine hK _ ?_; clear hK K)) | simp only [go_sem, hi0, c0, c1, c2, decide_true, decide_false, w2, s1, n1] | with_reducible refine wA ?_ | clear hK K)
  exact LNext.mk 2 (by omega) (by omega) (by (refine wk_mk ?_ ?_ ?_ <;> simp only [frm, List.foldl_cons, List.foldl_nil, List.replicate_succ, List.replicate_zero, WkT, WkO, AV.v.injEq, Value.int.injEq, Value.bool.injEq, Value.string.injEq, AV.vec.injEq, AV.ptr.injEq, true_or, or_true, false_or, or_false, AObj.mk.injEq, forall_eq_apply_imp_iff, forall_eq, forall_eq', go_sem]); rfl)
 ·repeat (first | (with_reducible first | refine Stp.up ?_ | refine fun (K : AK) hK => ?_ | (refine hK _ ?_; clear hK K)) | simp only [go_sem, hi0, c0, c1, c2, decide_true, decide_false] | with_reducible refine wA ?_ | clear hK K)
  refine ACallV.fr [] G (by simp) ?_ ?_ ?_ ?_ ?_
  ·rfl
  ·rfl
  ·rfl
  ·intro k ob hk; simp at hk
  repeat (first | (with_reducible first | refine Stp.up ?_ | refine fun (K : AK) hK => ?_ | (refine hK _ ?_; clear hK K)) | simp only [go_sem] | with_reducible refine wA ?_ | clear hK K)
  have eA : (encN a).length = a.length := by simp [encN]
  have eB : (encN b).length = b.length := by simp [encN]
  have eTa : (encN a).take a.length = encN a := List.take_of_length_le (by omega)
  have eTb : (encN b).take b.length = encN b := List.take_of_length_le (by omega)
  refine awp_loopO (ι := Nat) 27 (fun i => [(6, .vec 0 (if i = 0 then 0 else if i = 1 then a.length else a.length + b.length)), (8, .undef), (27, .v (.int .i64 i))]) (fun i => [some ⟨3, 1, true, if i = 0 then [] else if i = 1 then encN a else encN a ++ encN b⟩]) (fun i => 2 - i) (fun i => i ≤ 2) 0 (by omega) ?_ ?_
  ·(refine wk_mk ?_ ?_ ?_ <;> simp only [frm, List.foldl_cons, List.foldl_nil, List.replicate_succ, List.replicate_zero, WkT, WkO, AV.v.injEq, Value.int.injEq, Value.bool.injEq, Value.string.injEq, AV.vec.injEq, AV.ptr.injEq, true_or, or_true, false_or, or_false, AObj.mk.injEq, forall_eq_apply_imp_iff, forall_eq, forall_eq', go_sem])
   rfl
  rintro i hi K hK
  have hi3 : i = 0 ∨ i = 1 ∨ i = 2 := by omega
  rcases hi3 with hi0 | hi0 | hi0
  ·repeat (first | (with_reducible first | refine Stp.up ?_ | refine fun (K : AK) hK => ?_ | (refine hK _ ?_; clear hK K)) | simp only [go_sem, hi0, c0, c1, c2, decide_true, decide_false, w1, eA, eTa] | with_reducible refine wA ?_ | clear hK K)
   exact LNext.mk 1 (by omega) (by omega) (by (refine wk_mk ?_ ?_ ?_ <;> simp only [frm, List.foldl_cons, List.foldl_nil, List.replicate_succ, List.replicate_zero, WkT, WkO, AV.v.injEq, Value.int.injEq, Value.bool.injEq, Value.string.injEq, AV.vec.injEq, AV.ptr.injEq, true_or, or_true, false_or, or_false, AObj.mk.injEq, forall_eq_apply_imp_iff, forall_eq, forall_eq', go_sem]); rfl)
  ·repeat (first | (with_reducible first | refine Stp.up ?_ | refine fun (K : AK) hK => ?_ | (refine hK _ ?_; clear hK K)) | simp only [go_sem, hi0, c0, c1, c2, decide_true, decide_false, w2, eA, eB, eTb] | with_reducible refine wA ?_ | clear hK K)
   exact LNext.mk 2 (by omega) (by omega) (by (refine wk_mk ?_ ?_ ?_ <;> simp only [frm, List.foldl_cons, List.foldl_nil, List.replicate_succ, List.replicate_zero, WkT, WkO, AV.v.injEq, Value.int.injEq, Value.bool.injEq, Value.string.injEq, AV.vec.injEq, AV.ptr.injEq, true_or, or_true, false_or, or_false, AObj.mk.injEq, forall_eq_apply_imp_iff, forall_eq, forall_eq', go_sem]); rfl)
  ·repeat (first | (with_reducible first | refine Stp.up ?_ | refine fun (K : AK) hK => ?_ | (refine hK _ ?_; clear hK K)) | simp only [go_sem, hi0, c0, c1, c2, decide_true, decide_false] | with_reducible refine wA ?_ | clear hK K)
   have eAB : encN a ++ encN b = encN (a ++ b) := by simp [encN]
   simp only [eAB, List.length_append]
   (refine ⟨?_, ?_, ?_⟩ <;> simp only [WkT, WkO, AV.v.injEq, Value.int.injEq, Value.bool.injEq, Value.string.injEq, AV.vec.injEq, AV.ptr.injEq, true_or, or_true, false_or, or_false, AObj.mk.injEq, forall_eq_apply_imp_iff, forall_eq, forall_eq', go_sem])
set_option maxRecDepth 100000 in
set_option maxHeartbeats 4000000 in
theorem concat_v (a b : List Nat) (ha : a.length ≤ 400000) (hb : b.length ≤ 400000) : CallE Tryz.prog 78 [.vec 0 2] [some ⟨91, 1, true, [[.slc 1 (encN a) a.length], [.slc 1 (encN b) b.length]]⟩] (.vec 1 (a ++ b).length) [some ⟨91, 1, true, [[.slc 1 (encN a) a.length], [.slc 1 (encN b) b.length]]⟩, some ⟨3, 1, true, encN (a ++ b)⟩] := by
 have G := grow_e (a.length + b.length) (by omega)
 have c0 : ((0 : Nat) : Int) = 0 := rfl
 have c1 : ((1 : Nat) : Int) = 1 := rfl
 have c2 : ((2 : Nat) : Int) = 2 := rfl
 have w1 : IntKind.i64.wrap ((0 : Int) + 1) = 1 := rfl
 have w2 : IntKind.i64.wrap ((1 : Int) + 1) = 2 := rfl
 have s0 : IntKind.i64.wrap ((0 : Int) + (a.length : Int)) = (a.length : Int) := by rw [Int.zero_add]; exact wrap_id (by omega) (by omega)
 have s1 : IntKind.i64.wrap ((a.length : Int) + (b.length : Int)) = ((a.length + b.length : Nat) : Int) := by rw [wrap_id (by omega) (by omega)]; omega
 have n0 : decide ((a.length : Int) < 0) = false := decide_eq_false (by omega)
 have n1 : decide (((a.length + b.length : Nat) : Int) < 0) = false := decide_eq_false (by omega)
 (refine CallE.enter Tryz.func78 rfl (by kernel_rfl) (by kernel_rfl) rfl ?_; simp only [Tryz.ntmps78, Tryz.results78, List.length_cons, List.length_nil, Nat.reduceAdd, Nat.reduceSub, List.replicate_succ, List.replicate_zero, List.cons_append, List.nil_append])
 repeat (first | (with_reducible first | refine Stp.up ?_ | refine fun (K : AK) hK => ?_ | (refine hK _ ?_; clear hK K)) | simp only [go_sem] | with_reducible refine wA ?_ | clear hK K)
 refine awp_loopK (ι := Nat) 11 (fun i => [(3, .v (.int .i64 (if i = 0 then 0 else if i = 1 then a.length else a.length + b.length : Nat))), (5, .undef), (11, .v (.int .i64 i))]) (fun i => 2 - i) (fun i => i ≤ 2) 0 (by omega) ?_ ?_
 ·(refine wk_mk ?_ ?_ ?_ <;> simp only [frm, List.foldl_cons, List.foldl_nil, List.replicate_succ, List.replicate_zero, WkT, WkO, AV.v.injEq, Value.int.injEq, Value.bool.injEq, Value.string.injEq, AV.vec.injEq, AV.ptr.injEq, true_or, or_true, false_or, or_false, AObj.mk.injEq, forall_eq_apply_imp_iff, forall_eq, forall_eq', go_sem])
  all_goals first | rfl | exact ⟨rfl, rfl⟩
 rintro i hi K hK
 have hi3 : i = 0 ∨ i = 1 ∨ i = 2 := by omega
 rcases hi3 with hi0 | hi0 | hi0
 ·repeat (first | (with_reducible first | refine Stp.up ?_ | refine fun (K : AK) hK => ?_ | (refine hK _ ?_; clear hK K)) | simp only [go_sem, hi0, c0, c1, c2, decide_true, decide_false, w1, s0, n0] | with_reducible refine wA ?_ | clear hK K)
  exact LNext.mk 1 (by omega) (by omega) (by (refine wk_mk ?_ ?_ ?_ <;> simp only [frm, List.foldl_cons, List.foldl_nil, List.replicate_succ, List.replicate_zero, WkT, WkO, AV.v.injEq, Value.int.injEq, Value.bool.injEq, Value.string.injEq, AV.vec.injEq, AV.ptr.injEq, true_or, or_true, false_or, or_false, AObj.mk.injEq, forall_eq_apply_imp_iff, forall_eq, forall_eq', go_sem]); rfl)
 ·repeat (first | (with_reducible first | refine Stp.up ?_ | refine fun (K : AK) hK => ?_ | (refine hK _ ?_; clear hK K)) | simp only [go_sem, hi0, c0, c1, c2, decide_true, decide_false, w2, s1, n1] | with_reducible refine wA ?_ | clear hK K)
  exact LNext.mk 2 (by omega) (by omega) (by (refine wk_mk ?_ ?_ ?_ <;> simp only [frm, List.foldl_cons, List.foldl_nil, List.replicate_succ, List.replicate_zero, WkT, WkO, AV.v.injEq, Value.int.injEq, Value.bool.injEq, Value.string.injEq, AV.vec.injEq, AV.ptr.injEq, true_or, or_true, false_or, or_false, AObj.mk.injEq, forall_eq_apply_imp_iff, forall_eq, forall_eq', go_sem]); rfl)
 ·repeat (first | (with_reducible first | refine Stp.up ?_ | refine fun (K : AK) hK => ?_ | (refine hK _ ?_; clear hK K)) | simp only [go_sem, hi0, c0, c1, c2, decide_true, decide_false] | with_reducible refine wA ?_ | clear hK K)
  refine ACallV.fr [] G (by simp) ?_ ?_ ?_ ?_ ?_
  ·rfl
  ·rfl
  ·rfl
  ·intro k ob hk; simp at hk
  repeat (first | (with_reducible first | refine Stp.up ?_ | refine fun (K : AK) hK => ?_ | (refine hK _ ?_; clear hK K)) | simp only [go_sem] | with_reducible refine wA ?_ | clear hK K)
  have eA : (encN a).length = a.length := by simp [encN]
  have eB : (encN b).length = b.length := by simp [encN]
  have eTa : (encN a).take a.length = encN a := List.take_of_length_le (by omega)
  have eTb : (encN b).take b.length = encN b := List.take_of_length_le (by omega)
  refine awp_loopO (ι := Nat) 27 (fun i => [(6, .vec 1 (if i = 0 then 0 else if i = 1 then a.length else a.length + b.length)), (8, .undef), (27, .v (.int .i64 i))]) (fun i => [some ⟨91, 1, true, [[.slc 1 (encN a) a.length], [.slc 1 (encN b) b.length]]⟩, some ⟨3, 1, true, if i = 0 then [] else if i = 1 then encN a else encN a ++ encN b⟩]) (fun i => 2 - i) (fun i => i ≤ 2) 0 (by omega) ?_ ?_
  ·(refine wk_mk ?_ ?_ ?_ <;> simp only [frm, List.foldl_cons, List.foldl_nil, List.replicate_succ, List.replicate_zero, WkT, WkO, AV.v.injEq, Value.int.injEq, Value.bool.injEq, Value.string.injEq, AV.vec.injEq, AV.ptr.injEq, true_or, or_true, false_or, or_false, AObj.mk.injEq, forall_eq_apply_imp_iff, forall_eq, forall_eq', go_sem])
   rfl
  rintro i hi K hK
  have hi3 : i = 0 ∨ i = 1 ∨ i = 2 := by omega
  rcases hi3 with hi0 | hi0 | hi0
  ·repeat (first | (with_reducible first | refine Stp.up ?_ | refine fun (K : AK) hK => ?_ | (refine hK _ ?_; clear hK K)) | simp only [go_sem, hi0, c0, c1, c2, decide_true, decide_false, w1, eA, eTa] | with_reducible refine wA ?_ | clear hK K)
   exact LNext.mk 1 (by omega) (by omega) (by (refine wk_mk ?_ ?_ ?_ <;> simp only [frm, List.foldl_cons, List.foldl_nil, List.replicate_succ, List.replicate_zero, WkT, WkO, AV.v.injEq, Value.int.injEq, Value.bool.injEq, Value.string.injEq, AV.vec.injEq, AV.ptr.injEq, true_or, or_true, false_or, or_false, AObj.mk.injEq, forall_eq_apply_imp_iff, forall_eq, forall_eq', go_sem]); rfl)
  ·repeat (first | (with_reducible first | refine Stp.up ?_ | refine fun (K : AK) hK => ?_ | (refine hK _ ?_; clear hK K)) | simp only [go_sem, hi0, c0, c1, c2, decide_true, decide_false, w2, eA, eB, eTb] | with_reducible refine wA ?_ | clear hK K)
   exact LNext.mk 2 (by omega) (by omega) (by (refine wk_mk ?_ ?_ ?_ <;> simp only [frm, List.foldl_cons, List.foldl_nil, List.replicate_succ, List.replicate_zero, WkT, WkO, AV.v.injEq, Value.int.injEq, Value.bool.injEq, Value.string.injEq, AV.vec.injEq, AV.ptr.injEq, true_or, or_true, false_or, or_false, AObj.mk.injEq, forall_eq_apply_imp_iff, forall_eq, forall_eq', go_sem]); rfl)
  ·repeat (first | (with_reducible first | refine Stp.up ?_ | refine fun (K : AK) hK => ?_ | (refine hK _ ?_; clear hK K)) | simp only [go_sem, hi0, c0, c1, c2, decide_true, decide_false] | with_reducible refine wA ?_ | clear hK K)
   have eAB : encN a ++ encN b = encN (a ++ b) := by simp [encN]
   simp only [eAB, List.length_append]
   (refine ⟨?_, ?_, ?_⟩ <;> simp only [WkT, WkO, AV.v.injEq, Value.int.injEq, Value.bool.injEq, Value.string.injEq, AV.vec.injEq, AV.ptr.injEq, true_or, or_true, false_or, or_false, AObj.mk.injEq, forall_eq_apply_imp_iff, forall_eq, forall_eq', go_sem])
end Go.Proofs.YtfflpdekojlnmaaGreatDoor
