/- nfa: part and row walked. -/
import Derived.Test.YtfflpdekojlnmaaDoorLNfaP
set_option linter.unusedSimpArgs false
set_option linter.unusedVariables false
namespace Go.Proofs.YtfflpdekojlnmaaDoor
open Go.RowKit

theorem renR_encS (f : Nat → Nat) (l : List ByteArray) : renR f (l.map encS) = l.map encS := by
 induction l with
 | nil => rfl
 | cons x l ih => simp only [List.map_cons, renR, ih]; rfl
theorem NSt.ren_at (s : NSt) (n : Nat) : s.os.map (fun x => some (x.map (AObj.ren (sig [0, 1] n)))) = s.os.map some := by
 simp only [NSt.os, NSt.row, encM, List.map_cons, List.map_nil, Option.map_some, AObj.ren, renR, renL, AV.ren, ren_nfa, renR_encS]
 rfl
theorem ACallV.nfa {P : Program} {f : FuncId} {args : List AV} {s s' : NSt} {tl : List (Option AObj)} {r0 : AV} {K : AV → List (Option AObj) → Prop} (h : CallE P f args s.os r0 s'.os) (hargs : renL (sig [0, 1] (tl.length + 2)) args = args) (hwa : wfL 2 args = true) (hr : r0.ren (sig [0, 1] (tl.length + 2)) = r0)
  (k : K r0 (s'.os ++ tl)) : ACallV P f args (s.os ++ tl) K := by
 have hn : (s.os ++ tl).length = tl.length + 2 := by simp [NSt.os]
 refine ACallV.fr [0, 1] h (by decide) ?_ ?_ hwa ?_ ?_
 ·rw [NSt.ren_at]; simp [NSt.os]
 ·rw [hn, hargs]
 ·intro i ob hi
  match i, hi with
  | 0, hi => cases hi; simp only [NSt.row, encM, wfR, wfL, AV.wf, wf_nfa]; rfl
  | 1, hi => cases hi; exact wfR_map _ (fun _ => rfl) _
  | i + 2, hi => simp [NSt.os] at hi
 ·rw [hn, hr]
  have e : putO (sig [0, 1] (tl.length + 2)) [0, 1] s'.os (s.os ++ tl) = s'.os ++ tl := by
   have h := s'.ren_at (tl.length + 2)
   simp only [NSt.os, List.map_cons, List.map_nil, List.cons.injEq, Option.some.injEq, and_true] at h
   simp only [NSt.os, putO, h.1, h.2, List.cons_append, List.nil_append, List.set_cons_zero, List.set_cons_succ, List.map_nil, List.append_nil]
  rw [e]; exact k

def PartC (x : Ex) : Prop := ∀ st : NSt, st.fs.length = 25 → st.labs.length + (labE x).length ≤ 24 →
 CallE Tryd.prog 23 [.ptr 0 0 28 0 0, .agg (encE x)] st.os (.agg [encM (bld x st).2.1, encM (bld x st).2.2]) (bld x st).1.os
theorem labEs_app : ∀ (l m : List Ex), labEs (l ++ m) = labEs l ++ labEs m
 | [], m => by simp [labEs]
 | x :: l, m => by simp only [List.cons_append, labEs, labEs_app l m, List.append_assoc]
structure RowAt (l : List Ex) (r : RSt) (k : Nat) (S : RSt) : Prop where
 len : S.st.fs.length = 25
 ends : ∀ p ∈ bitsM S.ends, p < 25
 labs : ∀ h : k < l.length, S.st.labs.length + (labE l[k]).length ≤ 24
theorem row_at {l : List Ex} {st : NSt} (hf : st.fs.length = 25) (hb : st.labs.length + (labEs l).length ≤ 24) (k : Nat) : RowAt l ⟨st, true, 0#32, 0#32⟩ k (bldS (l.take k) ⟨st, true, 0#32, 0#32⟩) := by
 have e : labEs l = labEs (l.take k) ++ labEs (l.drop k) := by rw [← labEs_app, List.take_append_drop]
 rw [e, List.length_append] at hb
 have S := bldS_law (l.take k) ⟨st, true, 0#32, 0#32⟩ (fun x _ => bld_law x) hf (by rw [bitsM_zero]; intro p hp; cases hp) (by show st.labs.length + (labEs (l.take k)).length ≤ 24; omega)
 refine ⟨S.len, fun p hp => ?_, fun h => ?_⟩
 ·rcases (S.lst p).1 (bitsM_mem.1 hp) with h | h
  ·simp at h
  ·have h2 : p ≤ st.labs.length + (labEs (l.take k)).length := (LstA_range (LstS_A h)).2; omega
 ·rw [S.labs, List.length_append]
  rw [List.drop_eq_getElem_cons h, labEs, List.length_append] at hb
  simp only; omega
theorem bldS_succ {l : List Ex} {k : Nat} (h : k < l.length) (r : RSt) : bldS (l.take (k + 1)) r = rowStep l[k] (bld l[k] (bldS (l.take k) r).st) (bldS (l.take k) r) := by
 rw [List.take_succ_eq_append_getElem h, bldS_app]; rfl
set_option maxRecDepth 100000 in
set_option maxHeartbeats 4000000 in
theorem row_of (l : List Ex) (hl : l.length ≤ 24) (hk : ∀ x ∈ l, x.ok ∧ exRight x = true) (H : ∀ x ∈ l, PartC x) (st : NSt) (hf : st.fs.length = 25) (hb : st.labs.length + (labEs l).length ≤ 24) :
  CallE Tryd.prog 39 [.ptr 0 0 28 0 0, .slc 3 (l.map encE) l.length] st.os (.agg [encM (bldS l ⟨st, true, 0#32, 0#32⟩).first, encM (bldS l ⟨st, true, 0#32, 0#32⟩).ends]) (bldS l ⟨st, true, 0#32, 0#32⟩).st.os := by
 have e0 : bldS (l.take 0) ⟨st, true, 0#32, 0#32⟩ = ⟨st, true, 0#32, 0#32⟩ := rfl
 have eZ : encM 0#32 = .v (.int .u32 0) := rfl
 simp only [encM, NSt.os, NSt.row]
 (refine CallE.enter Tryd.func39 rfl (by kernel_rfl) (by kernel_rfl) rfl ?_; simp only [Tryd.ntmps39, Tryd.results39, List.length_cons, List.length_nil, Nat.reduceAdd, Nat.reduceSub, List.replicate_succ, List.replicate_zero, List.cons_append, List.nil_append])
 repeat (first | (with_reducible first | refine Stp.up ?_ | refine fun (K : AK) hK => ?_ | (refine hK _ ?_; clear hK K)) | simp only [go_sem] | with_reducible refine wA ?_ | clear hK K)
 refine awp_loopF (ι := Nat) (fun k => [(0, .ptr 0 0 28 0 0), (4, .ptr 2 0 2 0 0), (5, .v (.bool (bldS (l.take k) ⟨st, true, 0#32, 0#32⟩).op)), (6, encM (bldS (l.take k) ⟨st, true, 0#32, 0#32⟩).ends), (10, .slc 3 (l.map encE) l.length), (11, .v (.int .i64 l.length)), (12, .v (.int .i64 k))])
  (fun k => (bldS (l.take k) ⟨st, true, 0#32, 0#32⟩).st.os ++ [some ⟨69, 2, false, [[encM (bldS (l.take k) ⟨st, true, 0#32, 0#32⟩).first, .v (.int .u32 0)]]⟩]) (fun k => l.length - k) (fun k => k ≤ l.length) 0 (by omega) ?_ ?_
 ·simp only [e0, encM, NSt.os, NSt.row, List.cons_append, List.nil_append]
  (refine wk_mk ?_ ?_ ?_ <;> simp only [frm, List.foldl_cons, List.foldl_nil, List.replicate_succ, List.replicate_zero, WkT, WkO, AV.v.injEq, Value.int.injEq, Value.bool.injEq, Value.string.injEq, AV.vec.injEq, AV.ptr.injEq, true_or, or_true, false_or, or_false, AObj.mk.injEq, forall_eq_apply_imp_iff, forall_eq, forall_eq', go_sem])
  ·exact ⟨rfl, rfl⟩
  ·rfl
 ·intro k hkl K hK
  have A := row_at hf hb k
  generalize hS : bldS (l.take k) ⟨st, true, 0#32, 0#32⟩ = S at A ⊢
  simp only [encM, NSt.os, NSt.row, List.cons_append, List.nil_append]
  simp only [frm, List.foldl_cons, List.foldl_nil, List.replicate_succ, List.replicate_zero, go_sem]
  repeat (first | (with_reducible first | refine Stp.up ?_ | refine fun (K : AK) hK => ?_ | (refine hK _ ?_; clear hK K)) | simp only [go_sem] | with_reducible refine wA ?_ | clear hK K)
  refine AIf.part (fun h => ?_) (fun h => ?_)
  ·have hlt : k < l.length := by (try simp only [bne_iff_ne, ne_eq, bne_eq_false_iff_eq, beq_iff_eq, beq_eq_false_iff_ne, decide_eq_true_eq, decide_eq_false_iff_not, Bool.not_eq_eq_eq_not, Int.natCast_inj, Int.ofNat_lt, Int.ofNat_le] at h); omega
   have eG := getD_map encE l k [] hlt
   have eW := wrap_succ (k := k) (by omega)
   have C1 := H l[k] (List.getElem_mem hlt) S.st A.len (A.labs hlt)
   have B := bld_law l[k] S.st A.len (A.labs hlt)
   have hx := hk l[k] (List.getElem_mem hlt)
   have C3 := Empty_c l[k] hx.1
   rw [emptyB, hx.2, Bool.true_and] at C3
   have hNext : bldS (l.take (k + 1)) ⟨st, true, 0#32, 0#32⟩ = rowStep l[k] (bld l[k] S.st) S := by rw [bldS_succ hlt, hS]
   generalize l[k] = x at *
   generalize bld x S.st = b at *
   have C2 := link_e b.1 S.ends b.2.1 B.len A.ends
   simp only [encE_eq] at eG C1 C3
   simp only [encM] at C1 C2
   have wE : wfL 2 [.ptr 0 0 28 0 0, .agg [.v (.int .i64 x.kind), .v (.string x.label), .slc 3 (x.kids.map encE) x.kids.length]] = true := by simp only [wfL, AV.wf, wf_encE, Bool.and_self, Bool.true_and]; rfl
   have rE : ∀ f : Nat → Nat, f 0 = 0 → renL f [.ptr 0 0 28 0 0, .agg [.v (.int .i64 x.kind), .v (.string x.label), .slc 3 (x.kids.map encE) x.kids.length]] = [.ptr 0 0 28 0 0, .agg [.v (.int .i64 x.kind), .v (.string x.label), .slc 3 (x.kids.map encE) x.kids.length]] := fun f hf => by
    simp only [renL, AV.ren, hf, renR_wf0 f _ (wf_encE 0 x.kids)]
   repeat (first | (with_reducible first | refine Stp.up ?_ | refine fun (K : AK) hK => ?_ | (refine hK _ ?_; clear hK K)) | simp only [go_sem, eG] | with_reducible refine wA ?_ | clear hK K)
   refine ACallV.nfa C1 (rE _ rfl) wE rfl ?_
   simp only [NSt.os, NSt.row, encM, List.cons_append, List.nil_append]
   obtain ⟨sS, op, en, fi⟩ := S
   simp only at *
   repeat (first | (with_reducible first | refine Stp.up ?_ | refine fun (K : AK) hK => ?_ | (refine hK _ ?_; clear hK K)) | simp only [go_sem] | with_reducible refine wA ?_ | clear hK K)
   refine ACallV.nfa C2 rfl rfl rfl ?_
   simp only [NSt.os, NSt.row, encM, List.cons_append, List.nil_append]
   cases op <;> cases hem : exEmpty x
   all_goals
    rw [hem] at C3
    repeat (first | (with_reducible first | refine Stp.up ?_ | refine fun (K : AK) hK => ?_ | (refine hK _ ?_; clear hK K)) | simp only [go_sem, msk_or] | with_reducible refine wA ?_ | clear hK K)
    refine ACallV.one C3 ?_
    repeat (first | (with_reducible first | refine Stp.up ?_ | refine fun (K : AK) hK => ?_ | (refine hK _ ?_; clear hK K)) | simp only [go_sem, msk_or] | with_reducible refine wA ?_ | clear hK K)
    refine LNext.mk (k + 1) (by omega) (by omega) ?_
    rw [hNext]
    simp only [rowStep, hem, NSt.os, NSt.row, encM, List.cons_append, List.nil_append, if_true, if_false, Bool.false_eq_true]
    (refine wk_mk ?_ ?_ ?_ <;> simp only [frm, List.foldl_cons, List.foldl_nil, List.replicate_succ, List.replicate_zero, WkT, WkO, AV.v.injEq, Value.int.injEq, Value.bool.injEq, Value.string.injEq, AV.vec.injEq, AV.ptr.injEq, true_or, or_true, false_or, or_false, AObj.mk.injEq, forall_eq_apply_imp_iff, forall_eq, forall_eq', go_sem])
    all_goals first | exact eW | exact ⟨msk_or 0#32 _, eW⟩ | exact ⟨msk_or _ _, eW⟩
  ·have hkl' : k = l.length := by (try simp only [bne_iff_ne, ne_eq, bne_eq_false_iff_eq, beq_iff_eq, beq_eq_false_iff_ne, decide_eq_true_eq, decide_eq_false_iff_not, Bool.not_eq_eq_eq_not, Int.natCast_inj, Int.ofNat_lt, Int.ofNat_le] at h); omega
   have eT : bldS l ⟨st, true, 0#32, 0#32⟩ = S := by rw [← hS, hkl', List.take_length]
   repeat (first | (with_reducible first | refine Stp.up ?_ | refine fun (K : AK) hK => ?_ | (refine hK _ ?_; clear hK K)) | simp only [go_sem] | with_reducible refine wA ?_ | clear hK K)
   (refine ⟨?_, ?_, ?_⟩ <;> simp only [WkT, WkO, AV.v.injEq, Value.int.injEq, Value.bool.injEq, Value.string.injEq, AV.vec.injEq, AV.ptr.injEq, true_or, or_true, false_or, or_false, AObj.mk.injEq, forall_eq_apply_imp_iff, forall_eq, forall_eq', go_sem])
   ·rw [eT]
   ·rw [eT]; exact ⟨rfl, rfl⟩
theorem bldA_succ {l : List Ex} {k : Nat} (h : k < l.length) (r : NSt × BitVec 32 × BitVec 32) : bldA (l.take (k + 1)) r = ((bld l[k] (bldA (l.take k) r).1).1, (bldA (l.take k) r).2.1 ||| (bld l[k] (bldA (l.take k) r).1).2.1, (bldA (l.take k) r).2.2 ||| (bld l[k] (bldA (l.take k) r).1).2.2) := by
 rw [List.take_succ_eq_append_getElem h, bldA_app]; rfl
structure AltAt (l : List Ex) (k : Nat) (S : NSt × BitVec 32 × BitVec 32) : Prop where
 len : S.1.fs.length = 25
 lst : ∀ p ∈ bitsM S.2.2, p < 25
 labs : ∀ h : k < l.length, S.1.labs.length + (labE l[k]).length ≤ 24
theorem alt_at {l : List Ex} {st : NSt} (hf : st.fs.length = 25) (hb : st.labs.length + (labEs l).length ≤ 24) (k : Nat) : AltAt l k (bldA (l.take k) (st, 0#32, 0#32)) := by
 have e : labEs l = labEs (l.take k) ++ labEs (l.drop k) := by rw [← labEs_app, List.take_append_drop]
 rw [e, List.length_append] at hb
 have S := bldA_law (l.take k) (st, 0#32, 0#32) (fun x _ => bld_law x) hf (by show st.labs.length + (labEs (l.take k)).length ≤ 24; omega)
 refine ⟨S.len, fun p hp => ?_, fun h => ?_⟩
 ·rcases (S.lst p).1 (bitsM_mem.1 hp) with h | h
  ·simp at h
  ·have h2 : p ≤ st.labs.length + (labEs (l.take k)).length := (LstA_range h).2; omega
 ·rw [S.labs, List.length_append]
  rw [List.drop_eq_getElem_cons h, labEs, List.length_append] at hb
  simp only; omega
theorem right_kids {k : Int} {s : ByteArray} {l : List Ex} (h : exRight (.mk k s l) = true) : ∀ x ∈ l, exRight x = true := fun x hx => by
 simp only [exRight, Bool.and_eq_true, decide_eq_true_eq, List.all_eq_true] at h ⊢
 have hs : ∀ y, y ∈ exParts x → y ∈ exParts (.mk k s l) := fun y hy => by
  rw [exParts, exsParts_eq]; exact List.mem_cons_of_mem _ (List.mem_flatMap.2 ⟨x, hx, hy⟩)
 refine ⟨?_, fun y hy => h.2 y (hs y hy)⟩
 have := parts_sub (.mk k s l) x (hs x (by obtain ⟨k', s', l'⟩ := x; rw [exParts]; exact List.mem_cons_self))
 omega
theorem ok_kids : ∀ {l : List Ex}, exsOk l → ∀ x ∈ l, x.ok
 | [], _, x, hx => by cases hx
 | y :: l, h, x, hx => by
  rw [exsOk] at h
  rcases List.mem_cons.1 hx with rfl | hx
  ·exact h.1
  ·exact ok_kids h.2 x hx
set_option maxRecDepth 100000 in
set_option maxHeartbeats 4000000 in
theorem part_e (x : Ex) (ho : x.ok) (hr : exRight x = true) : PartC x := by
 induction x using Ex.ind with
 | h k s l ih =>
  intro st hf hb
  have hkid : ∀ x ∈ l, x.ok ∧ exRight x = true := fun x hx => ⟨ok_kids (by rw [Ex.ok] at ho; exact ho.2) x hx, right_kids hr x hx⟩
  have H : ∀ x ∈ l, PartC x := fun x hx => ih x hx (hkid x hx).1 (hkid x hx).2
  have hl : l.length ≤ 24 := by
   simp only [exRight, Bool.and_eq_true, decide_eq_true_eq] at hr
   have := kids_le (.mk k s l); simp only [Ex.kids] at this; omega
  by_cases h1 : k = 1
  ·subst h1
   rw [labE, if_pos rfl] at hb
   simp only [List.length_singleton] at hb
   have C := of_c ((st.labs.length + 1 : Nat) : Int)
   have eL : (st.labs ++ [s]).map encS = st.labs.map encS ++ [[.v (.string s)]] := by simp [encS]
   have eN : (st.labs ++ [s]).length = st.labs.length + 1 := by simp
   rw [bld, if_pos rfl]
   simp only [encE_eq, Ex.kind, Ex.label, Ex.kids, encM, NSt.os, NSt.row, eL, eN] at C ⊢
   (refine CallE.enter Tryd.func23 rfl (by kernel_rfl) (by kernel_rfl) rfl ?_; simp only [Tryd.ntmps23, Tryd.results23, List.length_cons, List.length_nil, Nat.reduceAdd, Nat.reduceSub, List.replicate_succ, List.replicate_zero, List.cons_append, List.nil_append])
   repeat ((fail_if_success (with_reducible refine stopR (i := 3) ?_)); first | (with_reducible first | refine Stp.up ?_ | refine fun (K : AK) hK => ?_ | refine adrawG_k (by decide) ?_ | refine adrawG_e (by decide) ?_ | (refine hK _ ?_; clear hK K)) | simp only [go_sem, Go.undef] | with_reducible refine wA ?_ | (refine adrawG_l rfl ?_) | (refine adrawG_eL rfl ?_) | clear hK K)
   refine awp_drawG [8, 11] [] (by decide +kernel) (by kernel_rfl) ?_
   repeat (first | (with_reducible first | refine Stp.up ?_ | refine fun (K : AK) hK => ?_ | refine adrawG_k (by decide) ?_ | refine adrawG_e (by decide) ?_ | (refine hK _ ?_; clear hK K)) | simp only [go_sem] | with_reducible refine wA ?_ | (refine adrawG_l rfl ?_) | (refine adrawG_eL rfl ?_) | clear hK K)
   refine ACallV.one C ?_
   repeat (first | (with_reducible first | refine Stp.up ?_ | refine fun (K : AK) hK => ?_ | refine adrawG_k (by decide) ?_ | refine adrawG_e (by decide) ?_ | (refine hK _ ?_; clear hK K)) | simp only [go_sem] | with_reducible refine wA ?_ | (refine adrawG_l rfl ?_) | (refine adrawG_eL rfl ?_) | clear hK K)
   (refine ⟨?_, ?_, ?_⟩ <;> simp only [WkT, WkO, AV.v.injEq, Value.int.injEq, Value.bool.injEq, Value.string.injEq, AV.vec.injEq, AV.ptr.injEq, true_or, or_true, false_or, or_false, AObj.mk.injEq, forall_eq_apply_imp_iff, forall_eq, forall_eq', go_sem])
  ·have f1 : (k == 1) = false := beq_false_of_ne h1
   rw [labE_of h1] at hb
   rw [bld, if_neg h1]
   have wE : wfL 2 [.ptr 0 0 28 0 0, .slc 3 (l.map encE) l.length] = true := by simp only [wfL, AV.wf, wf_encE, Bool.and_self, Bool.true_and]; rfl
   have rE : ∀ f : Nat → Nat, f 0 = 0 → renL f [.ptr 0 0 28 0 0, .slc 3 (l.map encE) l.length] = [.ptr 0 0 28 0 0, .slc 3 (l.map encE) l.length] := fun f hf => by
    simp only [renL, AV.ren, hf, renR_wf0 f _ (wf_encE 0 l)]
   by_cases h2 : k = 2
   ·subst h2
    have C := row_of l hl hkid H st hf hb
    rw [if_pos rfl]
    generalize bldS l ⟨st, true, 0#32, 0#32⟩ = R at *
    simp only [encE_eq, Ex.kind, Ex.label, Ex.kids, encM] at C ⊢
    (refine CallE.enter Tryd.func23 rfl (by kernel_rfl) (by kernel_rfl) rfl ?_; simp only [Tryd.ntmps23, Tryd.results23, List.length_cons, List.length_nil, Nat.reduceAdd, Nat.reduceSub, List.replicate_succ, List.replicate_zero, List.cons_append, List.nil_append])
    repeat ((fail_if_success (with_reducible refine stopR (i := 3) ?_)); first | (with_reducible first | refine Stp.up ?_ | refine fun (K : AK) hK => ?_ | refine adrawG_k (by decide) ?_ | refine adrawG_e (by decide) ?_ | (refine hK _ ?_; clear hK K)) | simp only [go_sem, f1, NSt.os, NSt.row, encM] | with_reducible refine wA ?_ | (refine adrawG_l rfl ?_) | (refine adrawG_eL rfl ?_) | clear hK K)
    refine ACallV.nfa C (rE _ rfl) wE rfl ?_
    simp only [NSt.os, NSt.row, encM, List.cons_append, List.nil_append]
    repeat (first | (with_reducible first | refine Stp.up ?_ | refine fun (K : AK) hK => ?_ | refine adrawG_k (by decide) ?_ | refine adrawG_e (by decide) ?_ | (refine hK _ ?_; clear hK K)) | simp only [go_sem] | with_reducible refine wA ?_ | (refine adrawG_l rfl ?_) | (refine adrawG_eL rfl ?_) | clear hK K)
    (refine ⟨?_, ?_, ?_⟩ <;> simp only [WkT, WkO, AV.v.injEq, Value.int.injEq, Value.bool.injEq, Value.string.injEq, AV.vec.injEq, AV.ptr.injEq, true_or, or_true, false_or, or_false, AObj.mk.injEq, forall_eq_apply_imp_iff, forall_eq, forall_eq', go_sem])
   ·have f2 : (k == 2) = false := beq_false_of_ne h2
    rw [if_neg h2]
    have e0 : bldA (l.take 0) (st, 0#32, 0#32) = (st, 0#32, 0#32) := rfl
    simp only [encE_eq, Ex.kind, Ex.label, Ex.kids, encM]
    (refine CallE.enter Tryd.func23 rfl (by kernel_rfl) (by kernel_rfl) rfl ?_; simp only [Tryd.ntmps23, Tryd.results23, List.length_cons, List.length_nil, Nat.reduceAdd, Nat.reduceSub, List.replicate_succ, List.replicate_zero, List.cons_append, List.nil_append])
    repeat ((fail_if_success (with_reducible refine stopR (i := 3) ?_)); first | (with_reducible first | refine Stp.up ?_ | refine fun (K : AK) hK => ?_ | refine adrawG_k (by decide) ?_ | refine adrawG_e (by decide) ?_ | (refine hK _ ?_; clear hK K)) | simp only [go_sem, f1, f2, NSt.os, NSt.row, encM] | with_reducible refine wA ?_ | (refine adrawG_l rfl ?_) | (refine adrawG_eL rfl ?_) | clear hK K)
    refine awp_loopF (ι := Nat) (fun j => [(0, .ptr 0 0 28 0 0), (3, .ptr 2 0 3 0 0), (4, .ptr 3 0 2 0 0), (40, .slc 3 (l.map encE) l.length), (41, .v (.int .i64 l.length)), (42, .v (.int .i64 j))])
     (fun j => (bldA (l.take j) (st, 0#32, 0#32)).1.os ++ [some ⟨25, 3, false, [[.v (.int .i64 k), .v (.string s), .slc 3 (l.map encE) l.length]]⟩, some ⟨69, 2, false, [[encM (bldA (l.take j) (st, 0#32, 0#32)).2.1, encM (bldA (l.take j) (st, 0#32, 0#32)).2.2]]⟩]) (fun j => l.length - j) (fun j => j ≤ l.length) 0 (by omega) ?_ ?_
    ·simp only [e0, encM, NSt.os, NSt.row, List.cons_append, List.nil_append]
     (refine wk_mk ?_ ?_ ?_ <;> simp only [frm, List.foldl_cons, List.foldl_nil, List.replicate_succ, List.replicate_zero, WkT, WkO, AV.v.injEq, Value.int.injEq, Value.bool.injEq, Value.string.injEq, AV.vec.injEq, AV.ptr.injEq, true_or, or_true, false_or, or_false, AObj.mk.injEq, forall_eq_apply_imp_iff, forall_eq, forall_eq', go_sem])
     all_goals first | rfl | exact ⟨rfl, rfl⟩
    ·intro j hjl K hK
     have A := alt_at hf hb j
     generalize hS : bldA (l.take j) (st, 0#32, 0#32) = S at A ⊢
     simp only [encM, NSt.os, NSt.row, List.cons_append, List.nil_append]
     simp only [frm, List.foldl_cons, List.foldl_nil, List.replicate_succ, List.replicate_zero, go_sem]
     repeat (first | (with_reducible first | refine Stp.up ?_ | refine fun (K : AK) hK => ?_ | refine adrawG_k (by decide) ?_ | refine adrawG_e (by decide) ?_ | (refine hK _ ?_; clear hK K)) | simp only [go_sem] | with_reducible refine wA ?_ | (refine adrawG_l rfl ?_) | (refine adrawG_eL rfl ?_) | clear hK K)
     refine AIf.part (fun h => ?_) (fun h => ?_)
     ·have hlt : j < l.length := by (try simp only [decide_eq_true_eq, decide_eq_false_iff_not, Int.ofNat_lt] at h); omega
      have eG := getD_map encE l j [] hlt
      have eW := wrap_succ (k := j) (by omega)
      have C1 := H l[j] (List.getElem_mem hlt) S.1 A.len (A.labs hlt)
      have hNext := bldA_succ hlt (st, 0#32, 0#32)
      rw [hS] at hNext
      generalize l[j] = x at *
      generalize bld x S.1 = b at *
      simp only [encE_eq] at eG C1
      simp only [encM] at C1
      have wX : wfL 2 [.ptr 0 0 28 0 0, .agg [.v (.int .i64 x.kind), .v (.string x.label), .slc 3 (x.kids.map encE) x.kids.length]] = true := by simp only [wfL, AV.wf, wf_encE, Bool.and_self, Bool.true_and]; rfl
      have rX : ∀ f : Nat → Nat, f 0 = 0 → renL f [.ptr 0 0 28 0 0, .agg [.v (.int .i64 x.kind), .v (.string x.label), .slc 3 (x.kids.map encE) x.kids.length]] = [.ptr 0 0 28 0 0, .agg [.v (.int .i64 x.kind), .v (.string x.label), .slc 3 (x.kids.map encE) x.kids.length]] := fun f hf => by
       simp only [renL, AV.ren, hf, renR_wf0 f _ (wf_encE 0 x.kids)]
      obtain ⟨sS, fi, la⟩ := S
      simp only at *
      repeat (first | (with_reducible first | refine Stp.up ?_ | refine fun (K : AK) hK => ?_ | refine adrawG_k (by decide) ?_ | refine adrawG_e (by decide) ?_ | (refine hK _ ?_; clear hK K)) | simp only [go_sem, eG] | with_reducible refine wA ?_ | (refine adrawG_l rfl ?_) | (refine adrawG_eL rfl ?_) | clear hK K)
      refine ACallV.nfa C1 (rX _ rfl) wX rfl ?_
      simp only [NSt.os, NSt.row, encM, List.cons_append, List.nil_append]
      repeat ((fail_if_success (with_reducible refine stopR (i := 12) ?_)); first | (with_reducible first | refine Stp.up ?_ | refine fun (K : AK) hK => ?_ | refine adrawG_k (by decide) ?_ | refine adrawG_e (by decide) ?_ | (refine hK _ ?_; clear hK K)) | simp only [go_sem, msk_or] | with_reducible refine wA ?_ | (refine adrawG_l rfl ?_) | (refine adrawG_eL rfl ?_) | clear hK K)
      refine awp_drawG [11, 13] [(8, 1000)] (by decide +kernel) (by kernel_rfl) ?_
      repeat (first | (with_reducible first | refine Stp.up ?_ | refine fun (K : AK) hK => ?_ | refine adrawG_k (by decide) ?_ | refine adrawG_e (by decide) ?_ | (refine hK _ ?_; clear hK K)) | simp only [go_sem, msk_or] | with_reducible refine wA ?_ | (refine adrawG_l rfl ?_) | (refine adrawG_eL rfl ?_) | clear hK K)
      refine LNext.mk (j + 1) (by omega) (by omega) ?_
      rw [hNext]
      simp only [NSt.os, NSt.row, encM, List.cons_append, List.nil_append]
      (refine wk_mk ?_ ?_ ?_ <;> simp only [frm, List.foldl_cons, List.foldl_nil, List.replicate_succ, List.replicate_zero, WkT, WkO, AV.v.injEq, Value.int.injEq, Value.bool.injEq, Value.string.injEq, AV.vec.injEq, AV.ptr.injEq, true_or, or_true, false_or, or_false, AObj.mk.injEq, forall_eq_apply_imp_iff, forall_eq, forall_eq', go_sem])
      all_goals first | exact eW | skip
     ·have hjl' : j = l.length := by (try simp only [decide_eq_true_eq, decide_eq_false_iff_not, Int.ofNat_lt] at h); omega
      have eT : bldA l (st, 0#32, 0#32) = S := by rw [← hS, hjl', List.take_length]
      have C := link_e S.1 S.2.2 S.2.1 A.len A.lst
      obtain ⟨sS, fi, la⟩ := S
      simp only at *
      simp only [encM] at C
      by_cases h4 : k = 4
      ·subst h4
       repeat (first | (with_reducible first | refine Stp.up ?_ | refine fun (K : AK) hK => ?_ | refine adrawG_k (by decide) ?_ | refine adrawG_e (by decide) ?_ | (refine hK _ ?_; clear hK K)) | simp only [go_sem, Go.undef] | with_reducible refine wA ?_ | (refine adrawG_l rfl ?_) | (refine adrawG_eL rfl ?_) | clear hK K)
       refine ACallV.nfa C rfl rfl rfl ?_
       simp only [NSt.os, NSt.row, encM, List.cons_append, List.nil_append]
       repeat (first | (with_reducible first | refine Stp.up ?_ | refine fun (K : AK) hK => ?_ | refine adrawG_k (by decide) ?_ | refine adrawG_e (by decide) ?_ | (refine hK _ ?_; clear hK K)) | simp only [go_sem] | with_reducible refine wA ?_ | (refine adrawG_l rfl ?_) | (refine adrawG_eL rfl ?_) | clear hK K)
       rw [eT]
       simp only [true_or, if_true, NSt.os, NSt.row, encM]
       (refine ⟨?_, ?_, ?_⟩ <;> simp only [WkT, WkO, AV.v.injEq, Value.int.injEq, Value.bool.injEq, Value.string.injEq, AV.vec.injEq, AV.ptr.injEq, true_or, or_true, false_or, or_false, AObj.mk.injEq, forall_eq_apply_imp_iff, forall_eq, forall_eq', go_sem])
      ·by_cases h5 : k = 5
       ·subst h5
        repeat (first | (with_reducible first | refine Stp.up ?_ | refine fun (K : AK) hK => ?_ | refine adrawG_k (by decide) ?_ | refine adrawG_e (by decide) ?_ | (refine hK _ ?_; clear hK K)) | simp only [go_sem, Go.undef] | with_reducible refine wA ?_ | (refine adrawG_l rfl ?_) | (refine adrawG_eL rfl ?_) | clear hK K)
        refine ACallV.nfa C rfl rfl rfl ?_
        simp only [NSt.os, NSt.row, encM, List.cons_append, List.nil_append]
        repeat (first | (with_reducible first | refine Stp.up ?_ | refine fun (K : AK) hK => ?_ | refine adrawG_k (by decide) ?_ | refine adrawG_e (by decide) ?_ | (refine hK _ ?_; clear hK K)) | simp only [go_sem] | with_reducible refine wA ?_ | (refine adrawG_l rfl ?_) | (refine adrawG_eL rfl ?_) | clear hK K)
        rw [eT]
        simp only [or_true, if_true, NSt.os, NSt.row, encM]
        (refine ⟨?_, ?_, ?_⟩ <;> simp only [WkT, WkO, AV.v.injEq, Value.int.injEq, Value.bool.injEq, Value.string.injEq, AV.vec.injEq, AV.ptr.injEq, true_or, or_true, false_or, or_false, AObj.mk.injEq, forall_eq_apply_imp_iff, forall_eq, forall_eq', go_sem])
       ·have f4 : (k == 4) = false := beq_false_of_ne h4
        have f5 : (k == 5) = false := beq_false_of_ne h5
        repeat (first | (with_reducible first | refine Stp.up ?_ | refine fun (K : AK) hK => ?_ | refine adrawG_k (by decide) ?_ | refine adrawG_e (by decide) ?_ | (refine hK _ ?_; clear hK K)) | simp only [go_sem, f4, f5, Go.undef] | with_reducible refine wA ?_ | (refine adrawG_l rfl ?_) | (refine adrawG_eL rfl ?_) | clear hK K)
        rw [eT]
        simp only [h4, h5, or_self, if_false, NSt.os, NSt.row, encM]
        (refine ⟨?_, ?_, ?_⟩ <;> simp only [WkT, WkO, AV.v.injEq, Value.int.injEq, Value.bool.injEq, Value.string.injEq, AV.vec.injEq, AV.ptr.injEq, true_or, or_true, false_or, or_false, AObj.mk.injEq, forall_eq_apply_imp_iff, forall_eq, forall_eq', go_sem])
end Go.Proofs.YtfflpdekojlnmaaDoor
