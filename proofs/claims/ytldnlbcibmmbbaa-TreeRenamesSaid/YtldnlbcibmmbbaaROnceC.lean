/- tree.once of any iterator; slices.Values; slices.Index, Contains, told so; a nil slice in a box, seen as an own row without elements. -/
import Derived.Test.YtldnlbcibmmbbaaRAbsV
import Derived.Test.YtldnlbcibmmbbaaRLibT
set_option linter.unusedSimpArgs false
set_option linter.unusedVariables false
namespace Go.Proofs.Ytldnlbcibmmbbaa
open Go.RowKit

section
variable {P : Program}
theorem turn_cell {s : AS} {k i j : Nat} {ob : AObj} {row : List AV} (T' : TypeId) (z' : Nat) (hz' : 0 < z') (hk : s.o[k]? = some (some ob)) (hz : 0 < ob.z) (hr : ob.rows[i]? = some row) (hj : row[j]? = some (.v (.slice none 0 0))) :
  Turn s (AS.mk s.t ((s.o ++ [some (AObj.mk T' z' true [])]).set k (some { ob with rows := ob.rows.set i (row.set j (.vec s.o.length 0)) })) s.y) := by
 intro f D nu a w hs
 have hv : ∀ b, blkM (Value.slice none 0 0) = some b → w.heap.size ≤ b := fun b e => by cases e
 have hp := push_mono (nu := nu) (o := s.o) (ob := ⟨T', z', true, []⟩) (Below.refl w.heap.size w) hv
 have hro := push_RO (ob := ⟨T', z', true, []⟩) hs.ro (Below.refl _ _) hv (.inl ⟨rfl, rfl, rfl⟩)
 have hlt := (List.getElem?_eq_some_iff.1 hk).1
 have hk' : (s.o ++ [some (⟨T', z', true, []⟩ : AObj)])[k]? = some (some ob) := by rw [List.getElem?_append_left hlt]; exact hk
 have hh : ob.hl = ({ ob with rows := ob.rows.set i (row.set j (.vec s.o.length 0)) } : AObj).hl := by simp [AObj.hl]
 obtain ⟨g, cur, hb⟩ : ∃ g cur, ROb D (updN nu s.o.length (.slice none 0 0)) (s.o ++ [some ⟨T', z', true, []⟩]) w k ob g cur := by
  rcases hro.obj k ob hk' with ⟨_, e, _⟩ | h | ⟨g, es, cl, hm⟩
  ·rw [e] at hr; simp at hr
  ·exact h
  ·have := hm.z; omega
 have hm := set_mono (nu := updN nu s.o.length (.slice none 0 0)) (o := s.o ++ [some ⟨T', z', true, []⟩]) (w := w) (w' := w) (ob' := { ob with rows := ob.rows.set i (row.set j (.vec s.o.length 0)) }) hk' hh.symm hb.blkEq rfl rfl rfl rfl (fun _ _ => rfl)
 refine ⟨updN nu s.o.length (.slice none 0 0), hp.trans hm, rfl, ?_, (hs.tm.mono hp (fun _ _ h => h)).mono hm (fun _ _ h => h), hs.dfr⟩
 have hil := (List.getElem?_eq_some_iff.1 hr).1
 have hjl := (List.getElem?_eq_some_iff.1 hj).1
 have key : ∀ (i' j' : Nat) r c, (ob.rows.set i (row.set j (.vec s.o.length 0)))[i']? = some r → r[j']? = some c → ∃ r0 c0, ob.rows[i']? = some r0 ∧ r0[j']? = some c0 ∧ (c = c0 ∨ (c = .vec s.o.length 0 ∧ c0 = .v (.slice none 0 0))) := by
  intro i' j' r c h1 h2
  by_cases hi : i = i'
  ·subst hi
   rw [List.getElem?_set_self hil] at h1; cases h1
   by_cases hj' : j = j'
   ·subst hj'
    rw [List.getElem?_set_self hjl] at h2; cases h2
    exact ⟨row, _, hr, hj, .inr ⟨rfl, rfl⟩⟩
   ·rw [List.getElem?_set_ne hj'] at h2
    exact ⟨row, c, hr, h2, .inl rfl⟩
  ·rw [List.getElem?_set_ne hi] at h1
   exact ⟨r, c, h1, h2, .inl rfl⟩
 refine set_RO hro hk' hh.symm hb.blkEq hm (fun _ _ => rfl) (cur := cur) ⟨hb.blk, hb.dom, fun hv' => ?_, fun hv' => ?_, hb.z, fun i' r hi' => ?_, fun i' j' r c x h1 h2 h3 => ?_, fun i' j' r c x h1 h2 h3 => ?_⟩
 ·obtain ⟨q1, q2, q3⟩ := hb.box hv'
  exact ⟨q1, by simpa using q2, q3⟩
 ·obtain ⟨cap, q1, q2, q3, q4⟩ := hb.vec hv'
  exact ⟨cap, by simpa using q1, by simpa using q2, q3, q4⟩
 ·by_cases hi : i = i'
  ·subst hi
   rw [List.getElem?_set_self hil] at hi'; cases hi'
   rw [List.length_set]; exact hb.row i row hr
  ·rw [List.getElem?_set_ne hi] at hi'
   exact hb.row i' r hi'
 ·obtain ⟨r0, c0, k1, k2, e⟩ := key i' j' r c h1 h2
  have h0 := hb.cell i' j' r0 c0 x k1 k2 h3
  rcases e with rfl | ⟨rfl, rfl⟩
  ·exact h0.mono hm (fun _ _ h => h)
  ·obtain rfl := h0.v_eq
   have := RA.vec (D := D) (nu := updN nu s.o.length (.slice none 0 0)) (o := (s.o ++ [some (⟨T', z', true, []⟩ : AObj)])) (w := w) s.o.length 0 ⟨_, List.getElem?_concat_length, fun x hx => Nat.zero_le _⟩ (by rw [updN_new]; rfl)
   rw [updN_new] at this
   exact this.mono hm (fun _ _ h => h)
 ·obtain ⟨r0, c0, k1, k2, _⟩ := key i' j' r c h1 h2
  exact hb.one i' j' r0 c0 x k1 k2 h3
end

theorem index_c (xs : List ByteArray) (s : ByteArray) : Call1 Try.prog 28 [strsA xs, .v (.string s)] (.v (.int .i64 (idxB xs s))) :=
 .of_ret (by kernel_rfl) (by simp only [wfL, strsA, AV.wf, wf_encS, Bool.and_self]) (fun D nu w vargs h => by
  obtain ⟨x, y, rfl, hx, hy⟩ := ras_two h
  obtain rfl := hy.v_eq
  exact (index_any xs x s w (ra_strs hx)).mono (fun e w' ⟨h1, h2⟩ => ⟨h1, h2 ▸ Below.refl _ _⟩))
theorem contains_c (xs : List ByteArray) (s : ByteArray) : Call1 Try.prog 57 [strsA xs, .v (.string s)] (.v (.bool (hasB xs s))) :=
 .of_ret (by kernel_rfl) (by simp only [wfL, strsA, AV.wf, wf_encS, Bool.and_self]) (fun D nu w vargs h => by
  obtain ⟨x, y, rfl, hx, hy⟩ := ras_two h
  obtain rfl := hy.v_eq
  exact (contains_any xs x s w (ra_strs hx)).mono (fun e w' ⟨h1, h2⟩ => ⟨h1, h2 ▸ Below.refl _ _⟩))

def encT (l : List ByteArray) : List (List AV) := l.map (fun s => [.v (.string s)])
theorem encT_at {l : List ByteArray} {i : Nat} (h : i < l.length) : encT (l.drop i) = [.v (.string l[i])] :: encT (l.drop (i + 1)) := by
 rw [encT, List.drop_eq_getElem_cons h]; rfl
set_option maxRecDepth 100000 in
set_option maxHeartbeats 4000000 in
theorem valuesT_seq (xs : List ByteArray) (hl : xs.length ≤ 1000000) : SeqA Try.prog 58 [.vp [strsA xs]] [] (encT xs) := by
 have e0 : encT xs = encT (xs.drop 0) := by rw [List.drop_zero]
 rw [e0]
 (refine SeqA.enter Try.func58 rfl (by kernel_rfl) (by kernel_rfl) rfl (fun l => ?_); simp only [Try.ntmps58, Try.results58, List.length_cons, List.length_nil, Nat.reduceAdd, Nat.reduceSub, List.replicate_succ, List.replicate_zero, List.cons_append, List.nil_append])
 simp only [strsA] at *
 repeat (first | (with_reducible first | refine Stp.up ?_ | refine fun (K : AK) hK => ?_ | (refine hK _ ?_; clear hK K)) | simp only [go_sem] | with_reducible refine wA ?_ | clear hK K)
 refine awp_loopY (ι := Nat) 8 (fun i => [(7, .v (.int .i64 i)), (4, .undef)]) (fun i => []) (fun i => .run l (encT (xs.drop i))) (fun i => xs.length - i) (fun i => i ≤ xs.length) 0 (by omega) ?_ ?_
 ·(refine wk_mk ?_ ?_ ?_ <;> simp only [frm, List.foldl_cons, List.foldl_nil, List.replicate_succ, List.replicate_zero, WkT, WkO, AV.v.injEq, Value.int.injEq, Value.bool.injEq, Value.string.injEq, AV.vec.injEq, AV.ptr.injEq, true_or, or_true, false_or, or_false, AObj.mk.injEq, forall_eq_apply_imp_iff, forall_eq, forall_eq', go_sem])
  rfl
 ·rintro i hi K hK
  repeat (first | (with_reducible first | refine Stp.up ?_ | refine fun (K : AK) hK => ?_ | (refine hK _ ?_; clear hK K)) | simp only [go_sem] | with_reducible refine wA ?_ | clear hK K)
  refine AIf.part (fun h => ?_) (fun h => ?_)
  ·have hlt : i < xs.length := by (try simp only [bne_iff_ne, ne_eq, bne_eq_false_iff_eq, beq_iff_eq, beq_eq_false_iff_ne, decide_eq_true_eq, decide_eq_false_iff_not, Bool.not_eq_eq_eq_not, Int.natCast_inj, Int.ofNat_lt, Int.ofNat_le] at h); omega
   have eW := wrap_succ (k := i) (by omega)
   have eG := getD_map encS xs i [] hlt
   have eY := encT_at hlt
   simp only [encS] at eG
   repeat' (first | (with_reducible first | refine Stp.up ?_ | refine fun (K : AK) hK => ?_ | (refine hK _ ?_; clear hK K)) | simp only [go_sem, eG, eW, eY, Go.undef] | with_reducible refine wA ?_ | clear hK K | (with_reducible refine ACallV.one (by assumption) ?_) | (with_reducible refine ACallS.one (by assumption) ?_) | (refine AIf.part (fun hb => ?_) (fun hb => ?_) <;> simp only [hb, go_sem, eG, eW, eY, Go.undef]) | (refine AIf.part (fun hb => ?_) (fun hb => ?_)) | (with_reducible refine ABoth.mk ?_ ?_))
   ·exact LNext.mk (i + 1) (by omega) (by omega) (by (refine wk_mk ?_ ?_ ?_ <;> simp only [frm, List.foldl_cons, List.foldl_nil, List.replicate_succ, List.replicate_zero, WkT, WkO, AV.v.injEq, Value.int.injEq, Value.bool.injEq, Value.string.injEq, AV.vec.injEq, AV.ptr.injEq, true_or, or_true, false_or, or_false, AObj.mk.injEq, forall_eq_apply_imp_iff, forall_eq, forall_eq', go_sem]))
   ·exact .inr trivial
  ·have e1 : xs.drop i = [] := List.drop_eq_nil_of_le (by (try simp only [bne_iff_ne, ne_eq, bne_eq_false_iff_eq, beq_iff_eq, beq_eq_false_iff_ne, decide_eq_true_eq, decide_eq_false_iff_not, Bool.not_eq_eq_eq_not, Int.natCast_inj, Int.ofNat_lt, Int.ofNat_le] at h); omega)
   simp only [e1, encT, List.map_nil]
   repeat (first | (with_reducible first | refine Stp.up ?_ | refine fun (K : AK) hK => ?_ | (refine hK _ ?_; clear hK K)) | simp only [go_sem] | with_reducible refine wA ?_ | clear hK K)
   exact .inl trivial
set_option maxRecDepth 100000 in
theorem valuesT_c (l : List ByteArray) : Call1 Try.prog 26 [strsA l] (.fn 58 [] [.vp [strsA l]]) := by
 simp only [strsA] at *
 (refine Call1.enter Try.func26 rfl (by kernel_rfl) (by kernel_rfl) rfl (by first | rfl | (simp only [go_sem, Bool.and_self, Bool.and_true, Bool.true_and])) (by first | rfl | (simp only [go_sem, Bool.and_self, Bool.and_true, Bool.true_and])) ?_; simp only [Try.ntmps26, Try.results26, List.length_cons, List.length_nil, Nat.reduceAdd, Nat.reduceSub, List.replicate_succ, List.replicate_zero, List.cons_append, List.nil_append])
 repeat' (first | (with_reducible first | refine Stp.up ?_ | refine fun (K : AK) hK => ?_ | (refine hK _ ?_; clear hK K)) | simp only [go_sem] | clear hK K | (with_reducible refine ACallV.one (by assumption) ?_) | (with_reducible refine ACallS.one (by assumption) ?_) | (refine AIf.part (fun hb => ?_) (fun hb => ?_) <;> simp only [hb, go_sem]) | (refine AIf.part (fun hb => ?_) (fun hb => ?_)) | (with_reducible refine ABoth.mk ?_ ?_))
 (refine AFz.of 40 rfl ?_; simp only [go_sem])

set_option maxRecDepth 100000 in
set_option maxHeartbeats 4000000 in
theorem once_c {gf : FuncId} {caps : List AV} (l : List ByteArray) (hl : l.length ≤ 1000000) (hs : SeqA Try.prog gf caps [] (encT l)) (hw : wfL 0 caps = true) : Call1 Try.prog 25 [.fn gf [] caps] (strsA (onceL l)) := by
 (refine Call1.enter Try.func25 rfl (by kernel_rfl) (by kernel_rfl) rfl (by simp only [go_sem, wfL, AV.wf, Bool.and_self, Bool.and_true, Bool.true_and, hw]) (by simp only [go_sem, wfL, AV.wf, wf_encS, Bool.and_self, Bool.and_true, Bool.true_and, hw]) ?_; simp only [Try.ntmps25, Try.results25, List.length_cons, List.length_nil, Nat.reduceAdd, Nat.reduceSub, List.replicate_succ, List.replicate_zero, List.cons_append, List.nil_append])
 repeat (first | (with_reducible first | refine Stp.up ?_ | refine fun (K : AK) hK => ?_ | (refine hK _ ?_; clear hK K)) | simp only [go_sem] | with_reducible refine wA ?_ | clear hK K)
 refine asem_turn (turn_cell (k := 0) (i := 0) (j := 0) 9 1 (by decide) rfl (by decide) rfl rfl) (by kernel_rfl) ?_
 simp only [List.length_cons, List.length_nil, Nat.reduceAdd, List.cons_append, List.nil_append, List.set_cons_zero]
 refine awp_rangeO hs 3 (fun k => [some ⟨27, 1, false, [[.vec 1 (onceL (l.take k)).length]]⟩, some ⟨9, 1, true, (onceL (l.take k)).map encS⟩]) (fun _ => True) trivial ?_ ?_ ?_ (by kernel_rfl) (by kernel_rfl) ?_ ?_ ?_
 ·repeat (first | (with_reducible first | refine Stp.up ?_ | refine fun (K : AK) hK => ?_ | (refine hK _ ?_; clear hK K)) | simp only [go_sem] | with_reducible refine wA ?_ | clear hK K)
 ·exact hw
 ·(refine wk_mk ?_ ?_ ?_ <;> simp only [frm, List.foldl_cons, List.foldl_nil, List.replicate_succ, List.replicate_zero, WkT, WkO, AV.v.injEq, Value.int.injEq, Value.bool.injEq, Value.string.injEq, AV.vec.injEq, AV.ptr.injEq, true_or, or_true, false_or, or_false, AObj.mk.injEq, forall_eq_apply_imp_iff, forall_eq, forall_eq', go_sem])
  ·exact wfL_le (by omega) _ hw
  ·exact ⟨rfl, rfl⟩
 ·intro x hx
  obtain ⟨o, _, rfl⟩ := List.mem_map.1 hx
  rfl
 ·intro k x hk hx
  obtain ⟨hlt, hx⟩ : ∃ h : k < l.length, x = [.v (.string l[k])] := by
   have := (List.getElem?_eq_some_iff.1 hx)
   obtain ⟨h1, h2⟩ := this
   simp only [encT, List.length_map] at h1
   exact ⟨h1, by rw [← h2]; simp [encT]⟩
  subst hx
  have C := contains_c (onceL (l.take k)) l[k]
  have hS := onceL_snoc (l.take k) l[k]
  rw [← List.take_succ_eq_append_getElem hlt] at hS
  have hn : (onceL (l.take k)).length ≤ 1000000 := by have := onceL_len (l.take k); simp at this; omega
  simp only [strsA] at C
  have hw2 : wfL 2 caps = true := wfL_le (by omega) _ hw
  repeat (first | (with_reducible first | refine Stp.up ?_ | refine fun (K : AK) hK => ?_ | (refine hK _ ?_; clear hK K)) | simp only [go_sem] | with_reducible refine wA ?_ | clear hK K)
  refine ACallV.frz C 6 rfl (by simp only [go_sem, wf_encS, List.length_map]) rfl ?_
  cases hh : hasB (onceL (l.take k)) l[k]
  ·rw [hh] at hS
   simp only [Bool.false_eq_true, if_false] at hS
   have eL : (onceL (l.take (k + 1))).length = (onceL (l.take k)).length + 1 := by rw [hS]; simp
   have eM : (onceL (l.take (k + 1))).map encS = (onceL (l.take k)).map encS ++ [[.v (.string l[k])]] := by rw [hS]; simp [encS]
   repeat (first | (with_reducible first | refine Stp.up ?_ | refine fun (K : AK) hK => ?_ | (refine hK _ ?_; clear hK K)) | simp only [go_sem] | with_reducible refine wA ?_ | clear hK K)
   rw [eL, eM]
   (refine wk_mk ?_ ?_ ?_ <;> simp only [frm, List.foldl_cons, List.foldl_nil, List.replicate_succ, List.replicate_zero, WkT, WkO, AV.v.injEq, Value.int.injEq, Value.bool.injEq, Value.string.injEq, AV.vec.injEq, AV.ptr.injEq, true_or, or_true, false_or, or_false, AObj.mk.injEq, forall_eq_apply_imp_iff, forall_eq, forall_eq', go_sem])
   all_goals first | exact hw2 | (rw [← eM]; simp only [wf_encS])
  ·rw [hh] at hS
   simp only [if_true] at hS
   repeat (first | (with_reducible first | refine Stp.up ?_ | refine fun (K : AK) hK => ?_ | (refine hK _ ?_; clear hK K)) | simp only [go_sem] | with_reducible refine wA ?_ | clear hK K)
   rw [hS]
   (refine wk_mk ?_ ?_ ?_ <;> simp only [frm, List.foldl_cons, List.foldl_nil, List.replicate_succ, List.replicate_zero, WkT, WkO, AV.v.injEq, Value.int.injEq, Value.bool.injEq, Value.string.injEq, AV.vec.injEq, AV.ptr.injEq, true_or, or_true, false_or, or_false, AObj.mk.injEq, forall_eq_apply_imp_iff, forall_eq, forall_eq', go_sem])
   all_goals first | exact hw2 | skip
 ·intro _
  have e1 : l.take (encT l).length = l := by rw [encT, List.length_map, List.take_length]
  repeat (first | (with_reducible first | refine Stp.up ?_ | refine fun (K : AK) hK => ?_ | (refine hK _ ?_; clear hK K)) | simp only [go_sem, e1] | with_reducible refine wA ?_ | clear hK K)
  (refine AFz.of 40 rfl ?_; simp only [go_sem])
end Go.Proofs.Ytldnlbcibmmbbaa
