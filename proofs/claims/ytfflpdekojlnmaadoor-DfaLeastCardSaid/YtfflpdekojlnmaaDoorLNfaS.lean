/- nfa.New and the methods. -/
import Derived.Test.YtfflpdekojlnmaaDoorLPart
set_option linter.unusedSimpArgs false
set_option linter.unusedVariables false
namespace Go.Proofs.YtfflpdekojlnmaaDoor
open Go.RowKit

def nfaV (s : NSt) : List AV := .slc 1 (s.labs.map encS) s.labs.length :: (s.fs.map encM ++ [encM s.la, .v (.bool s.em)])
theorem wf_nfaV (n : Nat) (s : NSt) : wfL n (nfaV s) = true := by simp only [nfaV, encM, wfL, AV.wf, wf_nfa, wf_encS, Bool.and_self]
attribute [go_sem] wf_nfaV
set_option maxRecDepth 100000 in
theorem nLen_c (s : NSt) : Call1 Tryd.prog 49 [.vp (nfaV s)] (.v (.int .i64 s.labs.length)) := by
 simp only [nfaV, encM]
 (refine Call1.enter Tryd.func49 rfl (by kernel_rfl) (by kernel_rfl) rfl (by first | rfl | (simp only [go_sem, Bool.and_self, Bool.and_true, Bool.true_and])) (by first | rfl | (simp only [go_sem, Bool.and_self, Bool.and_true, Bool.true_and])) ?_; simp only [Tryd.ntmps49, Tryd.results49, List.length_cons, List.length_nil, Nat.reduceAdd, Nat.reduceSub, List.replicate_succ, List.replicate_zero, List.cons_append, List.nil_append])
 repeat' (first | (with_reducible first | refine Stp.up ?_ | refine fun (K : AK) hK => ?_ | (refine hK _ ?_; clear hK K)) | simp only [go_sem] | clear hK K | (with_reducible refine ACallV.one (by assumption) ?_) | (with_reducible refine ACallS.one (by assumption) ?_) | (refine AIf.part (fun hb => ?_) (fun hb => ?_) <;> simp only [hb, go_sem]) | (refine AIf.part (fun hb => ?_) (fun hb => ?_)) | (with_reducible refine ABoth.mk ?_ ?_))
set_option maxRecDepth 100000 in
theorem nLast_c (s : NSt) (hf : s.fs.length = 25) : Call1 Tryd.prog 27 [.vp (nfaV s)] (.slc 1 (encN (bitsM s.la)) (bitsM s.la).length) := by
 have C := list_c s.la
 have eD : List.drop 25 (s.fs.map encM ++ [.v (.int .u32 s.la.toNat), .v (.bool s.em)]) = [.v (.int .u32 s.la.toNat), .v (.bool s.em)] := by rw [List.drop_append_of_le_length (by simp [hf]), List.drop_eq_nil_of_le (by simp [hf])]; rfl
 simp only [nfaV, encM] at *
 (refine Call1.enter Tryd.func27 rfl (by kernel_rfl) (by kernel_rfl) rfl (by first | rfl | (simp only [go_sem, Bool.and_self, Bool.and_true, Bool.true_and])) (by first | rfl | (simp only [go_sem, Bool.and_self, Bool.and_true, Bool.true_and])) ?_; simp only [Tryd.ntmps27, Tryd.results27, List.length_cons, List.length_nil, Nat.reduceAdd, Nat.reduceSub, List.replicate_succ, List.replicate_zero, List.cons_append, List.nil_append])
 repeat (first | (with_reducible first | refine Stp.up ?_ | refine fun (K : AK) hK => ?_ | (refine hK _ ?_; clear hK K)) | simp only [go_sem, eD] | clear hK K)
 refine ACallV.one C ?_
 repeat (first | (with_reducible first | refine Stp.up ?_ | refine fun (K : AK) hK => ?_ | (refine hK _ ?_; clear hK K)) | simp only [go_sem] | clear hK K)
 (refine AFz.of 40 rfl ?_; simp only [go_sem])
set_option maxRecDepth 100000 in
theorem nEmpty_c (s : NSt) (hf : s.fs.length = 25) : Call1 Tryd.prog 32 [.vp (nfaV s)] (.v (.bool s.em)) := by
 have eD : List.drop 26 (s.fs.map encM ++ [.v (.int .u32 s.la.toNat), .v (.bool s.em)]) = [.v (.bool s.em)] := by
  rw [show 26 = s.fs.length + 1 by omega, show (s.fs.length + 1) = (s.fs.map encM).length + 1 by simp, List.drop_append]; simp
 simp only [nfaV, encM] at *
 (refine Call1.enter Tryd.func32 rfl (by kernel_rfl) (by kernel_rfl) rfl (by first | rfl | (simp only [go_sem, Bool.and_self, Bool.and_true, Bool.true_and])) (by first | rfl | (simp only [go_sem, Bool.and_self, Bool.and_true, Bool.true_and])) ?_; simp only [Tryd.ntmps32, Tryd.results32, List.length_cons, List.length_nil, Nat.reduceAdd, Nat.reduceSub, List.replicate_succ, List.replicate_zero, List.cons_append, List.nil_append])
 repeat (first | (with_reducible first | refine Stp.up ?_ | refine fun (K : AK) hK => ?_ | (refine hK _ ?_; clear hK K)) | simp only [go_sem, eD, Go.undef] | clear hK K)

def labAt (s : NSt) (p : Int) : ByteArray := if 1 ≤ p ∧ p ≤ s.labs.length then s.labs.getD (p - 1).toNat ⟨#[]⟩ else ⟨#[]⟩
def folAt (s : NSt) (p : Int) : List Nat := if 1 ≤ p ∧ p ≤ s.labs.length then bitsM (s.fs.getD p.toNat 0#32) else []
theorem labAt_row {s : NSt} {p : Int} (h1 : 1 ≤ p) (h2 : p ≤ s.labs.length) : (s.labs.map encS).getD (p - 1).toNat [] = [.v (.string (labAt s p))] := by
 have hlt : (p - 1).toNat < s.labs.length := by omega
 rw [labAt, if_pos ⟨h1, h2⟩]
 rw [List.getD_eq_getElem?_getD, List.getD_eq_getElem?_getD, List.getElem?_map, List.getElem?_eq_getElem hlt]; rfl

theorem fs_drop0 {fs : List (BitVec 32)} {X : List AV} {p : Nat} (h : p < fs.length) : ∃ r, (fs.map encM ++ X).drop (p * 1) = encM (fs.getD p 0#32) :: r := by
 obtain ⟨r, e⟩ := fs_drop (l := .undef) (X := X) h
 rw [Nat.add_comm, List.drop_succ_cons] at e
 exact ⟨r, e⟩

end Go.Proofs.YtfflpdekojlnmaaDoor

namespace Go.Proofs.YtfflpdekojlnmaaDoor
open Go.RowKit

def outM (s : NSt) (l : List Nat) : BitVec 32 := l.foldl (fun t p => t ||| s.fs.getD p 0#32) 0#32
def keepM1 (s : NSt) (lab : ByteArray) (t : BitVec 32) (p : Nat) : BitVec 32 := if (labAt s p).toList == lab.toList then t else t &&& ~~~ ofM p
def keepM (s : NSt) (lab : ByteArray) (l : List Nat) (t : BitVec 32) : BitVec 32 := l.foldl (keepM1 s lab) t
def stepM (s : NSt) (frm : BitVec 32) (lab : ByteArray) : BitVec 32 := keepM s lab (bitsM (outM s (bitsM frm))) (outM s (bitsM frm))
theorem outM_snoc (s : NSt) (l : List Nat) (p : Nat) : outM s (l ++ [p]) = outM s l ||| s.fs.getD p 0#32 := by rw [outM, List.foldl_append]; rfl
theorem keepM_snoc (s : NSt) (lab : ByteArray) (l : List Nat) (t : BitVec 32) (p : Nat) : keepM s lab (l ++ [p]) t = keepM1 s lab (keepM s lab l t) p := by rw [keepM, List.foldl_append]; rfl
set_option maxRecDepth 100000 in
set_option maxHeartbeats 4000000 in
theorem step_c (s : NSt) (fr : BitVec 32) (lab : ByteArray) (hf : s.fs.length = 25) (hn : s.labs.length ≤ 24) (h1 : ∀ p ∈ bitsM fr, p < 25) (h2 : ∀ p ∈ bitsM (outM s (bitsM fr)), 1 ≤ p ∧ p ≤ s.labs.length) :
  Call1 Tryd.prog 50 [.vp (nfaV s), encM fr, .v (.string lab)] (encM (stepM s fr lab)) := by
 have A1 := setAll_e fr
 have A2 := setAll_e (outM s (bitsM fr))
 have O := fun p => of_c p
 have hV := wf_nfaV
 obtain ⟨V, hVe⟩ : ∃ V, V = nfaV s := ⟨_, rfl⟩
 simp only [boxM, encM] at *
 (refine Call1.enter Tryd.func50 rfl (by kernel_rfl) (by kernel_rfl) rfl (by first | rfl | (simp only [go_sem, Bool.and_self, Bool.and_true, Bool.true_and])) (by first | rfl | (simp only [go_sem, Bool.and_self, Bool.and_true, Bool.true_and])) ?_; simp only [Tryd.ntmps50, Tryd.results50, List.length_cons, List.length_nil, Nat.reduceAdd, Nat.reduceSub, List.replicate_succ, List.replicate_zero, List.cons_append, List.nil_append])
 repeat (first | (with_reducible first | refine Stp.up ?_ | refine fun (K : AK) hK => ?_ | refine wE ?_ | refine wD ?_ | refine wK ?_ | refine wF ?_ | refine adrawG_k (by decide) ?_ | refine adrawG_e (by decide) ?_ | (refine hK _ ?_; clear hK K)) | simp only [go_sem] | with_reducible refine wA ?_ | clear hK K)
 refine ACallV.fr [] A1 (by simp) ?_ ?_ ?_ ?_ ?_
 ·rfl
 ·rfl
 ·rfl
 ·intro k ob hk; simp at hk
 repeat (first | (with_reducible first | refine Stp.up ?_ | refine fun (K : AK) hK => ?_ | refine wE ?_ | refine wD ?_ | refine wK ?_ | refine wF ?_ | refine adrawG_k (by decide) ?_ | refine adrawG_e (by decide) ?_ | (refine hK _ ?_; clear hK K)) | simp only [go_sem] | with_reducible refine wA ?_ | clear hK K)
 refine awp_rangeSet fr 3 (by simp only [boxM, encM]; rfl) 7 (fun k => [some ⟨45, 1, false, [[.vp (nfaV s)]]⟩, some ⟨9, 1, false, [[.v (.string lab)]]⟩, some ⟨64, 1, false, [[encM (outM s ((bitsM fr).take k))]]⟩, none]) (fun _ => True) trivial ?_ rfl ?_ (by kernel_rfl) (by kernel_rfl) rfl ?_ ?_
 ·rfl
 ·simp only [encM]
  (refine wk_mk ?_ ?_ ?_ <;> simp only [frm, List.foldl_cons, List.foldl_nil, List.replicate_succ, List.replicate_zero, WkT, WkO, AV.v.injEq, Value.int.injEq, Value.bool.injEq, Value.string.injEq, AV.vec.injEq, AV.ptr.injEq, true_or, or_true, false_or, or_false, AObj.mk.injEq, forall_eq_apply_imp_iff, forall_eq, forall_eq', go_sem])
  all_goals rfl
 ·intro k hk _
  have hp := h1 _ (List.getElem_mem hk)
  rw [List.take_succ_eq_append_getElem hk, outM_snoc]
  generalize outM s ((bitsM fr).take k) = T at *
  generalize (bitsM fr)[k] = p at *
  obtain ⟨r, eD⟩ := fs_drop0 (X := [.v (.int .u32 s.la.toNat), .v (.bool s.em)]) (fs := s.fs) (p := p) (by omega)
  simp only [encM, nfaV] at eD ⊢
  repeat (first | (with_reducible first | refine Stp.up ?_ | refine fun (K : AK) hK => ?_ | refine wE ?_ | refine wD ?_ | refine wK ?_ | refine wF ?_ | refine adrawG_k (by decide) ?_ | refine adrawG_e (by decide) ?_ | (refine hK _ ?_; clear hK K)) | simp only [go_sem, eD, msk_or] | with_reducible refine wA ?_ | clear hK K)
  (refine wk_mk ?_ ?_ ?_ <;> simp only [frm, List.foldl_cons, List.foldl_nil, List.replicate_succ, List.replicate_zero, WkT, WkO, AV.v.injEq, Value.int.injEq, Value.bool.injEq, Value.string.injEq, AV.vec.injEq, AV.ptr.injEq, true_or, or_true, false_or, or_false, AObj.mk.injEq, forall_eq_apply_imp_iff, forall_eq, forall_eq', go_sem])
 ·intro _
  have e1 : (bitsM fr).take (bitsM fr).length = bitsM fr := List.take_length
  simp only [e1, encM, nfaV]
  repeat (first | (with_reducible first | refine Stp.up ?_ | refine fun (K : AK) hK => ?_ | refine wE ?_ | refine wD ?_ | refine wK ?_ | refine wF ?_ | refine adrawG_k (by decide) ?_ | refine adrawG_e (by decide) ?_ | (refine hK _ ?_; clear hK K)) | simp only [go_sem] | with_reducible refine wA ?_ | clear hK K)
  refine ACallV.fr [] A2 (by simp) ?_ ?_ ?_ ?_ ?_
  ·rfl
  ·rfl
  ·rfl
  ·intro k ob hk; simp at hk
  repeat (first | (with_reducible first | refine Stp.up ?_ | refine fun (K : AK) hK => ?_ | refine wE ?_ | refine wD ?_ | refine wK ?_ | refine wF ?_ | refine adrawG_k (by decide) ?_ | refine adrawG_e (by decide) ?_ | (refine hK _ ?_; clear hK K)) | simp only [go_sem] | with_reducible refine wA ?_ | clear hK K)
  have hS : stepM s fr lab = keepM s lab (bitsM (outM s (bitsM fr))) (outM s (bitsM fr)) := rfl
  generalize outM s (bitsM fr) = T at *
  refine awp_rangeSet T 4 (by simp only [boxM, encM]; rfl) 7 (fun k => [some ⟨45, 1, false, [[.vp (nfaV s)]]⟩, some ⟨9, 1, false, [[.v (.string lab)]]⟩, some ⟨64, 1, false, [[encM (keepM s lab ((bitsM T).take k) T)]]⟩, none, none]) (fun _ => True) trivial ?_ rfl ?_ (by kernel_rfl) (by kernel_rfl) rfl ?_ ?_
  ·rfl
  ·simp only [encM, nfaV]
   (refine wk_mk ?_ ?_ ?_ <;> simp only [frm, List.foldl_cons, List.foldl_nil, List.replicate_succ, List.replicate_zero, WkT, WkO, AV.v.injEq, Value.int.injEq, Value.bool.injEq, Value.string.injEq, AV.vec.injEq, AV.ptr.injEq, true_or, or_true, false_or, or_false, AObj.mk.injEq, forall_eq_apply_imp_iff, forall_eq, forall_eq', go_sem])
   all_goals rfl
  ·intro k hk _
   have hp := h2 _ (List.getElem_mem hk)
   rw [List.take_succ_eq_append_getElem hk, keepM_snoc, keepM1]
   generalize keepM s lab ((bitsM T).take k) T = U at *
   generalize (bitsM T)[k] = p at *
   have eG := labAt_row (s := s) (p := p) (by omega) (by omega)
   have eW : IntKind.i64.wrap ((p : Int) - 1) = (p : Int) - 1 := wrap_id (by omega) (by omega)
   have C := O p
   simp only [encM, nfaV]
   cases hq : (labAt s p).toList == lab.toList
   ·simp only [Bool.false_eq_true, if_false]
    repeat ((fail_if_success (with_reducible refine stopR (i := 7) ?_)); first | (with_reducible first | refine Stp.up ?_ | refine fun (K : AK) hK => ?_ | refine wK ?_ | refine wF ?_ | refine adrawG_k (by decide) ?_ | refine adrawG_e (by decide) ?_ | (refine hK _ ?_; clear hK K)) | simp only [go_sem, eG, eW, hq] | with_reducible refine wA ?_ | clear hK K)
    refine wD ?_
    repeat (first | (with_reducible first | refine Stp.up ?_ | refine fun (K : AK) hK => ?_ | refine wK ?_ | refine wF ?_ | refine adrawG_k (by decide) ?_ | refine adrawG_e (by decide) ?_ | (refine hK _ ?_; clear hK K)) | simp only [go_sem, eG, eW, hq] | with_reducible refine wA ?_ | clear hK K)
    refine awp_drawG [4] [] (by decide +kernel) (by kernel_rfl) ?_
    repeat (first | (with_reducible first | refine Stp.up ?_ | refine fun (K : AK) hK => ?_ | refine wK ?_ | refine wF ?_ | refine adrawG_k (by decide) ?_ | refine adrawG_e (by decide) ?_ | (refine hK _ ?_; clear hK K)) | simp only [go_sem, eG, eW, hq] | with_reducible refine wA ?_ | clear hK K)
    refine ACallS.one C ?_
    repeat (first | (with_reducible first | refine Stp.up ?_ | refine fun (K : AK) hK => ?_ | refine wK ?_ | refine wF ?_ | refine adrawG_k (by decide) ?_ | refine adrawG_e (by decide) ?_ | (refine hK _ ?_; clear hK K)) | simp only [go_sem, msk_not] | with_reducible refine wA ?_ | clear hK K)
    (refine wk_mk ?_ ?_ ?_ <;> simp only [frm, List.foldl_cons, List.foldl_nil, List.replicate_succ, List.replicate_zero, WkT, WkO, AV.v.injEq, Value.int.injEq, Value.bool.injEq, Value.string.injEq, AV.vec.injEq, AV.ptr.injEq, true_or, or_true, false_or, or_false, AObj.mk.injEq, forall_eq_apply_imp_iff, forall_eq, forall_eq', go_sem])
    all_goals rfl
   ·simp only [if_true]
    repeat (first | (with_reducible first | refine Stp.up ?_ | refine fun (K : AK) hK => ?_ | refine wE ?_ | refine wD ?_ | refine wK ?_ | refine wF ?_ | refine adrawG_k (by decide) ?_ | refine adrawG_e (by decide) ?_ | (refine hK _ ?_; clear hK K)) | simp only [go_sem, eG, eW, hq] | with_reducible refine wA ?_ | clear hK K)
    (refine wk_mk ?_ ?_ ?_ <;> simp only [frm, List.foldl_cons, List.foldl_nil, List.replicate_succ, List.replicate_zero, WkT, WkO, AV.v.injEq, Value.int.injEq, Value.bool.injEq, Value.string.injEq, AV.vec.injEq, AV.ptr.injEq, true_or, or_true, false_or, or_false, AObj.mk.injEq, forall_eq_apply_imp_iff, forall_eq, forall_eq', go_sem])
    all_goals rfl
  ·intro _
   have e2 : (bitsM T).take (bitsM T).length = bitsM T := List.take_length
   simp only [e2, encM, nfaV]
   repeat (first | (with_reducible first | refine Stp.up ?_ | refine fun (K : AK) hK => ?_ | refine wE ?_ | refine wD ?_ | refine wK ?_ | refine wF ?_ | refine adrawG_k (by decide) ?_ | refine adrawG_e (by decide) ?_ | (refine hK _ ?_; clear hK K)) | simp only [go_sem] | with_reducible refine wA ?_ | clear hK K)
   rw [hS]
end Go.Proofs.YtfflpdekojlnmaaDoor
