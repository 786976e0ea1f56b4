/- nfa.New and the methods. -/
import Derived.Test.YtfflpdekojlnmaaGreatDoorTPart
set_option linter.unusedSimpArgs false
set_option linter.unusedVariables false
namespace Go.Proofs.YtfflpdekojlnmaaGreatDoor
open Go.RowKit

def nfaV (s : NSt) : List AV := .slc 1 (s.labs.map encS) s.labs.length :: (s.fs.map encM ++ [encM s.la, .v (.bool s.em)])
theorem wf_nfaV (n : Nat) (s : NSt) : wfL n (nfaV s) = true := by simp only [nfaV, encM, wfL, AV.wf, wf_nfa, wf_encS, Bool.and_self]
attribute [go_sem] wf_nfaV
set_option maxRecDepth 100000 in
theorem nLen_c (s : NSt) : Call1 Tryz.prog 92 [.vp (nfaV s)] (.v (.int .i64 s.labs.length)) := by
 simp only [nfaV, encM]
 (refine Call1.enter Tryz.func92 rfl (by kernel_rfl) (by kernel_rfl) rfl (by first | rfl | (simp only [go_sem, Bool.and_self, Bool.and_true, Bool.true_and])) (by first | rfl | (simp only [go_sem, Bool.and_self, Bool.and_true, Bool.true_and])) ?_; simp only [Tryz.ntmps92, Tryz.results92, List.length_cons, List.length_nil, Nat.reduceAdd, Nat.reduceSub, List.replicate_succ, List.replicate_zero, List.cons_append, List.nil_append])
 repeat' (first | (with_reducible first | refine Stp.up ?_ | refine fun (K : AK) hK => ?_ | (refine hK _ ?_; clear hK K)) | simp only [go_sem] | clear hK K | (with_reducible refine ACallV.one (by assumption) ?_) | (with_reducible refine ACallS.one (by assumption) ?_) | (refine AIf.part (fun hb => ?_) (fun hb => ?_) <;> simp only [hb, go_sem]) | (refine AIf.part (fun hb => ?_) (fun hb => ?_)) | (with_reducible refine ABoth.mk ?_ ?_))
set_option maxRecDepth 100000 in
theorem nLast_c (s : NSt) (hf : s.fs.length = 25) : Call1 Tryz.prog 57 [.vp (nfaV s)] (.slc 1 (encN (bitsM s.la)) (bitsM s.la).length) := by
 have C := list_c s.la
 have eD : List.drop 25 (s.fs.map encM ++ [.v (.int .u32 s.la.toNat), .v (.bool s.em)]) = [.v (.int .u32 s.la.toNat), .v (.bool s.em)] := by rw [List.drop_append_of_le_length (by simp [hf]), List.drop_eq_nil_of_le (by simp [hf])]; rfl
 simp only [nfaV, encM] at *
 (refine Call1.enter Tryz.func57 rfl (by kernel_rfl) (by kernel_rfl) rfl (by first | rfl | (simp only [go_sem, Bool.and_self, Bool.and_true, Bool.true_and])) (by first | rfl | (simp only [go_sem, Bool.and_self, Bool.and_true, Bool.true_and])) ?_; simp only [Tryz.ntmps57, Tryz.results57, List.length_cons, List.length_nil, Nat.reduceAdd, Nat.reduceSub, List.replicate_succ, List.replicate_zero, List.cons_append, List.nil_append])
 repeat (first | (with_reducible first | refine Stp.up ?_ | refine fun (K : AK) hK => ?_ | (refine hK _ ?_; clear hK K)) | simp only [go_sem, eD] | clear hK K)
 refine ACallV.one C ?_
 repeat (first | (with_reducible first | refine Stp.up ?_ | refine fun (K : AK) hK => ?_ | (refine hK _ ?_; clear hK K)) | simp only [go_sem] | clear hK K)
 (refine AFz.of 40 rfl ?_; simp only [go_sem])
set_option maxRecDepth 100000 in
theorem nEmpty_c (s : NSt) (hf : s.fs.length = 25) : Call1 Tryz.prog 62 [.vp (nfaV s)] (.v (.bool s.em)) := by
 have eD : List.drop 26 (s.fs.map encM ++ [.v (.int .u32 s.la.toNat), .v (.bool s.em)]) = [.v (.bool s.em)] := by
  rw [show 26 = s.fs.length + 1 by omega, show (s.fs.length + 1) = (s.fs.map encM).length + 1 by simp, List.drop_append]; simp
 simp only [nfaV, encM] at *
 (refine Call1.enter Tryz.func62 rfl (by kernel_rfl) (by kernel_rfl) rfl (by first | rfl | (simp only [go_sem, Bool.and_self, Bool.and_true, Bool.true_and])) (by first | rfl | (simp only [go_sem, Bool.and_self, Bool.and_true, Bool.true_and])) ?_; simp only [Tryz.ntmps62, Tryz.results62, List.length_cons, List.length_nil, Nat.reduceAdd, Nat.reduceSub, List.replicate_succ, List.replicate_zero, List.cons_append, List.nil_append])
 repeat (first | (with_reducible first | refine Stp.up ?_ | refine fun (K : AK) hK => ?_ | (refine hK _ ?_; clear hK K)) | simp only [go_sem, eD, Go.undef] | clear hK K)

def labAt (s : NSt) (p : Int) : ByteArray := if 1 ≤ p ∧ p ≤ s.labs.length then s.labs.getD (p - 1).toNat ⟨#[]⟩ else ⟨#[]⟩
def folAt (s : NSt) (p : Int) : List Nat := if 1 ≤ p ∧ p ≤ s.labs.length then bitsM (s.fs.getD p.toNat 0#32) else []
theorem labAt_row {s : NSt} {p : Int} (h1 : 1 ≤ p) (h2 : p ≤ s.labs.length) : (s.labs.map encS).getD (p - 1).toNat [] = [.v (.string (labAt s p))] := by
 have hlt : (p - 1).toNat < s.labs.length := by omega
 rw [labAt, if_pos ⟨h1, h2⟩]
 rw [List.getD_eq_getElem?_getD, List.getD_eq_getElem?_getD, List.getElem?_map, List.getElem?_eq_getElem hlt]; rfl

theorem fs_drop0 {fs : List (BitVec 32)} {X : List AV} {p : Nat} (h : p < fs.length) : ∃ r, (fs.map encM ++ X).drop (p * 1) = encM (fs.getD p 0#32) :: r := by
 obtain ⟨r, e⟩ := fs_drop (l := .undef) (X := X) h
 rw [Nat.add_comm, List.drop_succ_cons] at e
 exact ⟨r, e⟩

end Go.Proofs.YtfflpdekojlnmaaGreatDoor

namespace Go.Proofs.YtfflpdekojlnmaaGreatDoor
open Go.RowKit

def outM (s : NSt) (l : List Nat) : BitVec 32 := l.foldl (fun t p => t ||| s.fs.getD p 0#32) 0#32
def keepM1 (s : NSt) (lab : ByteArray) (t : BitVec 32) (p : Nat) : BitVec 32 := if (labAt s p).toList == lab.toList then t else t &&& ~~~ ofM p
def keepM (s : NSt) (lab : ByteArray) (l : List Nat) (t : BitVec 32) : BitVec 32 := l.foldl (keepM1 s lab) t
def stepM (s : NSt) (frm : BitVec 32) (lab : ByteArray) : BitVec 32 := keepM s lab (bitsM (outM s (bitsM frm))) (outM s (bitsM frm))
theorem outM_snoc (s : NSt) (l : List Nat) (p : Nat) : outM s (l ++ [p]) = outM s l ||| s.fs.getD p 0#32 := by rw [outM, List.foldl_append]; rfl
theorem keepM_snoc (s : NSt) (lab : ByteArray) (l : List Nat) (t : BitVec 32) (p : Nat) : keepM s lab (l ++ [p]) t = keepM1 s lab (keepM s lab l t) p := by rw [keepM, List.foldl_append]; rfl
set_option maxRecDepth 100000 in
set_option maxHeartbeats 4000000 in
theorem step_c (s : NSt) (fr : BitVec 32) (lab : ByteArray) (hf : s.fs.length = 25) (hn : s.labs.length ≤ 24) (h1 : ∀ p ∈ bitsM fr, p < 25) (h2 : ∀ p ∈ bitsM (outM s (bitsM fr)), 1 ≤ p ∧ p ≤ s.labs.length) :
  Call1 Tryz.prog 93 [.vp (nfaV s), encM fr, .v (.string lab)] (encM (stepM s fr lab)) := by
 have A1 := setAll_e fr
 have A2 := setAll_e (outM s (bitsM fr))
 have O := fun p => of_c p
 have hV := wf_nfaV
 obtain ⟨V, hVe⟩ : ∃ V, V = nfaV s := ⟨_, rfl⟩
 simp only [boxM, encM] at *
 (refine Call1.enter Tryz.func93 rfl (by kernel_rfl) (by kernel_rfl) rfl (by first | rfl | (simp only [go_sem, Bool.and_self, Bool.and_true, Bool.true_and])) (by first | rfl | (simp only [go_sem, Bool.and_self, Bool.and_true, Bool.true_and])) ?_; simp only [Tryz.ntmps93, Tryz.results93, List.length_cons, List.length_nil, Nat.reduceAdd, Nat.reduceSub, List.replicate_succ, List.replicate_zero, List.cons_append, List.nil_append])
 repeat (first | (with_reducible first | refine Stp.up ?_ | refine fun (K : AK) hK => ?_ | refine wE ?_ | refine wD ?_ | refine wK ?_ | refine wF ?_ | refine adrawG_k (by decide) ?_ | refine adrawG_e (by decide) ?_ | (refine hK _ ?_; clear hK K)) | simp only [go_sem] | with_reducible refine wA ?_ | clear hK K)
 refine ACallV.fr [] A1 (by simp) ?_ ?_ ?_ ?_ ?_
 ·rfl
 ·rfl
 ·rfl
 ·intro k ob hk; simp at hk
 repeat (first | (with_reducible first | refine Stp.up ?_ | refine fun (K : AK) hK => ?_ | refine wE ?_ | refine wD ?_ | refine wK ?_ | refine wF ?_ | refine adrawG_k (by decide) ?_ | refine adrawG_e (by decide) ?_ | (refine hK _ ?_; clear hK K)) | simp only [go_sem] | with_reducible refine wA ?_ | clear hK K)
 refine awp_rangeSet fr 3 (by simp only [boxM, encM]; rfl) 7 (fun k => [some ⟨61, 1, false, [[.vp (nfaV s)]]⟩, some ⟨9, 1, false, [[.v (.string lab)]]⟩, some ⟨96, 1, false, [[encM (outM s ((bitsM fr).take k))]]⟩, none]) (fun _ => True) trivial ?_ rfl ?_ (by kernel_rfl) (by kernel_rfl) rfl ?_ ?_
 ·rfl
 ·simp only [encM]
  (refine wk_mk ?_ ?_ ?_ <;> simp only [frm, List.foldl_cons, List.foldl_nil, List.replicate_succ, List.replicate_zero, WkT, WkO, AV.v.injEq, Value.int.injEq, Value.bool.injEq, Value.string.injEq, AV.vec.injEq, AV.ptr.injEq, true_or, or_true, false_or, or_false, AObj.mk.injEq, forall_eq_apply_imp_iff, forall_eq, forall_eq', go_sem])
  all_goals rfl
 ·intro k hk _
  have hp := h1 _ (List.getElem_mem hk)
  rw [List.take_succ_eq_append_getElem hk, outM_snoc]
  generalize outM s ((bitsM fr).take k) = T at *
  generalize (bitsM fr)[k] = p at *
  obtain ⟨r, eD⟩ := fs_drop0 (X := [.v (.int .u32 s.la.toNat), .v (.bool s.em)]) (fs := s.fs) (p := p) (by omega)
  simp only [encM, nfaV] at eD ⊢
  repeat (first | (with_reducible first | refine Stp.up ?_ | refine fun (K : AK) hK => ?_ | refine wE ?_ | refine wD ?_ | refine wK ?_ | refine wF ?_ | refine adrawG_k (by decide) ?_ | refine adrawG_e (by decide) ?_ | (refine hK _ ?_; clear hK K)) | simp only [go_sem, eD, msk_or] | with_reducible refine wA ?_ | clear hK K)
  (refine wk_mk ?_ ?_ ?_ <;> simp only [frm, List.foldl_cons, List.foldl_nil, List.replicate_succ, List.replicate_zero, WkT, WkO, AV.v.injEq, Value.int.injEq, Value.bool.injEq, Value.string.injEq, AV.vec.injEq, AV.ptr.injEq, true_or, or_true, false_or, or_false, AObj.mk.injEq, forall_eq_apply_imp_iff, forall_eq, forall_eq', go_sem])
 ·intro _
  have e1 : (bitsM fr).take (bitsM fr).length = bitsM fr := List.take_length
  simp only [e1, encM, nfaV]
  repeat (first | (with_reducible first | refine Stp.up ?_ | refine fun (K : AK) hK => ?_ | refine wE ?_ | refine wD ?_ | refine wK ?_ | refine wF ?_ | refine adrawG_k (by decide) ?_ | refine adrawG_e (by decide) ?_ | (refine hK _ ?_; clear hK K)) | simp only [go_sem] | with_reducible refine wA ?_ | clear hK K)
  refine ACallV.fr [] A2 (by simp) ?_ ?_ ?_ ?_ ?_
  ·rfl
  ·rfl
  ·rfl
  ·intro k ob hk; simp at hk
  repeat (first | (with_reducible first | refine Stp.up ?_ | refine fun (K : AK) hK => ?_ | refine wE ?_ | refine wD ?_ | refine wK ?_ | refine wF ?_ | refine adrawG_k (by decide) ?_ | refine adrawG_e (by decide) ?_ | (refine hK _ ?_; clear hK K)) | simp only [go_sem] | with_reducible refine wA ?_ | clear hK K)
  have hS : stepM s fr lab = keepM s lab (bitsM (outM s (bitsM fr))) (outM s (bitsM fr)) := rfl
  generalize outM s (bitsM fr) = T at *
  refine awp_rangeSet T 4 (by simp only [boxM, encM]; rfl) 7 (fun k => [some ⟨61, 1, false, [[.vp (nfaV s)]]⟩, some ⟨9, 1, false, [[.v (.string lab)]]⟩, some ⟨96, 1, false, [[encM (keepM s lab ((bitsM T).take k) T)]]⟩, none, none]) (fun _ => True) trivial ?_ rfl ?_ (by kernel_rfl) (by kernel_rfl) rfl ?_ ?_
  ·rfl
  ·simp only [encM, nfaV]
   (refine wk_mk ?_ ?_ ?_ <;> simp only [frm, List.foldl_cons, List.foldl_nil, List.replicate_succ, List.replicate_zero, WkT, WkO, AV.v.injEq, Value.int.injEq, Value.bool.injEq, Value.string.injEq, AV.vec.injEq, AV.ptr.injEq, true_or, or_true, false_or, or_false, AObj.mk.injEq, forall_eq_apply_imp_iff, forall_eq, forall_eq', go_sem])
   all_goals rfl
  ·intro k hk _
   have hp := h2 _ (List.getElem_mem hk)
   rw [List.take_succ_eq_append_getElem hk, keepM_snoc, keepM1]
   generalize keepM s lab ((bitsM T).take k) T = U at *
   generalize (bitsM T)[k] = p at *
   have eG := labAt_row (s := s) (p := p) (by omega) (by omega)
   have eW : IntKind.i64.wrap ((p : Int) - 1) = (p : Int) - 1 := wrap_id (by omega) (by omega)
   have C := O p
   simp only [encM, nfaV]
   cases hq : (labAt s p).toList == lab.toList
   ·simp only [Bool.false_eq_true, if_false]
    repeat ((fail_if_success (with_reducible refine stopR (i := 7) ?_)); first | (with_reducible first | refine Stp.up ?_ | refine fun (K : AK) hK => ?_ | refine wK ?_ | refine wF ?_ | refine adrawG_k (by decide) ?_ | refine adrawG_e (by decide) ?_ | (refine hK _ ?_; clear hK K)) | simp only [go_sem, eG, eW, hq] | with_reducible refine wA ?_ | clear hK K)
    refine wD ?_
    repeat (first | (with_reducible first | refine Stp.up ?_ | refine fun (K : AK) hK => ?_ | refine wK ?_ | refine wF ?_ | refine adrawG_k (by decide) ?_ | refine adrawG_e (by decide) ?_ | (refine hK _ ?_; clear hK K)) | simp only [go_sem, eG, eW, hq] | with_reducible refine wA ?_ | clear hK K)
    refine awp_drawG [4] [] (by decide +kernel) (by kernel_rfl) ?_
    repeat (first | (with_reducible first | refine Stp.up ?_ | refine fun (K : AK) hK => ?_ | refine wK ?_ | refine wF ?_ | refine adrawG_k (by decide) ?_ | refine adrawG_e (by decide) ?_ | (refine hK _ ?_; clear hK K)) | simp only [go_sem, eG, eW, hq] | with_reducible refine wA ?_ | clear hK K)
    refine ACallS.one C ?_
    repeat (first | (with_reducible first | refine Stp.up ?_ | refine fun (K : AK) hK => ?_ | refine wK ?_ | refine wF ?_ | refine adrawG_k (by decide) ?_ | refine adrawG_e (by decide) ?_ | (refine hK _ ?_; clear hK K)) | simp only [go_sem, msk_not] | with_reducible refine wA ?_ | clear hK K)
    (refine wk_mk ?_ ?_ ?_ <;> simp only [frm, List.foldl_cons, List.foldl_nil, List.replicate_succ, List.replicate_zero, WkT, WkO, AV.v.injEq, Value.int.injEq, Value.bool.injEq, Value.string.injEq, AV.vec.injEq, AV.ptr.injEq, true_or, or_true, false_or, or_false, AObj.mk.injEq, forall_eq_apply_imp_iff, forall_eq, forall_eq', go_sem])
    all_goals rfl
   ·simp only [if_true]
    repeat (first | (with_reducible first | refine Stp.up ?_ | refine fun (K : AK) hK => ?_ | refine wE ?_ | refine wD ?_ | refine wK ?_ | refine wF ?_ | refine adrawG_k (by decide) ?_ | refine adrawG_e (by decide) ?_ | (refine hK _ ?_; clear hK K)) | simp only [go_sem, eG, eW, hq] | with_reducible refine wA ?_ | clear hK K)
    (refine wk_mk ?_ ?_ ?_ <;> simp only [frm, List.foldl_cons, List.foldl_nil, List.replicate_succ, List.replicate_zero, WkT, WkO, AV.v.injEq, Value.int.injEq, Value.bool.injEq, Value.string.injEq, AV.vec.injEq, AV.ptr.injEq, true_or, or_true, false_or, or_false, AObj.mk.injEq, forall_eq_apply_imp_iff, forall_eq, forall_eq', go_sem])
    all_goals rfl
  ·intro _
   have e2 : (bitsM T).take (bitsM T).length = bitsM T := List.take_length
   simp only [e2, encM, nfaV]
   repeat (first | (with_reducible first | refine Stp.up ?_ | refine fun (K : AK) hK => ?_ | refine wE ?_ | refine wD ?_ | refine wK ?_ | refine wF ?_ | refine adrawG_k (by decide) ?_ | refine adrawG_e (by decide) ?_ | (refine hK _ ?_; clear hK K)) | simp only [go_sem] | with_reducible refine wA ?_ | clear hK K)
   rw [hS]
end Go.Proofs.YtfflpdekojlnmaaGreatDoor

namespace Go.Proofs.YtfflpdekojlnmaaGreatDoor
open Go.RowKit

structure NOk (s : NSt) : Prop where
 len : s.fs.length = 25
 n : s.labs.length ≤ 24
 fol : ∀ p q, (s.fs.getD p 0#32).getLsbD q = true → 1 ≤ q ∧ q ≤ s.labs.length
 la : ∀ q, s.la.getLsbD q = true → 1 ≤ q ∧ q ≤ s.labs.length
theorem foldOr_get {f : Nat → BitVec 32} {q : Nat} : ∀ (l : List Nat) (t : BitVec 32), (l.foldl (fun t p => t ||| f p) t).getLsbD q = true ↔ t.getLsbD q = true ∨ ∃ p ∈ l, (f p).getLsbD q = true
 | [], t => by simp
 | x :: l, t => by
  rw [List.foldl_cons, foldOr_get l, BitVec.getLsbD_or, Bool.or_eq_true]
  simp only [List.mem_cons, exists_eq_or_imp, or_assoc]
theorem outM_get {s : NSt} {l : List Nat} {q : Nat} : (outM s l).getLsbD q = true ↔ ∃ p ∈ l, (s.fs.getD p 0#32).getLsbD q = true := by
 rw [outM, foldOr_get]; simp
theorem keepM_get {s : NSt} {lab : ByteArray} {q : Nat} (hq : q ≤ 24) : ∀ (l : List Nat) (t : BitVec 32), (keepM s lab l t).getLsbD q = true ↔ t.getLsbD q = true ∧ (q ∈ l → ((labAt s q).toList == lab.toList) = true)
 | [], t => by simp [keepM]
 | x :: l, t => by
  rw [keepM, List.foldl_cons, ← keepM, keepM_get hq l, keepM1]
  split
  ·rename_i h
   simp only [List.mem_cons]
   constructor
   ·rintro ⟨h1, h2⟩; exact ⟨h1, fun hh => hh.elim (fun e => by rw [e]; exact h) h2⟩
   ·rintro ⟨h1, h2⟩; exact ⟨h1, fun hh => h2 (.inr hh)⟩
  ·rename_i h
   rw [BitVec.getLsbD_and, BitVec.getLsbD_not, ofM_get]
   simp only [List.mem_cons]
   constructor
   ·rintro ⟨h1, h2⟩
    simp only [Bool.and_eq_true, Bool.not_eq_true', decide_eq_false_iff_not, decide_eq_true_eq] at h1
    have hne : q ≠ x := fun e => h1.2.2 ⟨by omega, by omega, by omega⟩
    exact ⟨h1.1, fun hh => hh.elim (fun e => absurd e hne) h2⟩
   ·rintro ⟨h1, h2⟩
    have hne : q ≠ x := fun e => h (by rw [← e]; exact h2 (.inl e))
    refine ⟨?_, fun hh => h2 (.inr hh)⟩
    simp only [Bool.and_eq_true, Bool.not_eq_true', decide_eq_false_iff_not, decide_eq_true_eq]
    exact ⟨h1, by omega, fun hh => hne (by omega)⟩
theorem stepM_get {s : NSt} (ok : NOk s) {m : BitVec 32} {lab : ByteArray} {q : Nat} : (stepM s m lab).getLsbD q = true ↔ ∃ p, m.getLsbD p = true ∧ (s.fs.getD p 0#32).getLsbD q = true ∧ (labAt s q).toList = lab.toList := by
 have hb : ∀ q, (outM s (bitsM m)).getLsbD q = true → 1 ≤ q ∧ q ≤ s.labs.length := fun q h => by
  obtain ⟨p, _, h⟩ := outM_get.1 h; exact ok.fol p q h
 have sub : ∀ (l : List Nat) (t : BitVec 32), (keepM s lab l t).getLsbD q = true → t.getLsbD q = true := fun l => by
  induction l with
  | nil => intro t h; exact h
  | cons x l ih =>
   intro t h
   have := ih _ h
   rw [keepM1] at this
   split at this
   ·exact this
   ·rw [BitVec.getLsbD_and, Bool.and_eq_true] at this; exact this.1
 constructor
 ·intro h
  have h1 := sub _ _ h
  have h2 := hb q h1
  have h3 := ok.n
  have := ((keepM_get (by omega) _ _).1 h).2 (bitsM_mem.2 h1)
  obtain ⟨p, h4, h5⟩ := outM_get.1 h1
  exact ⟨p, bitsM_mem.1 h4, h5, by simpa using this⟩
 ·rintro ⟨p, h1, h2, h3⟩
  have h4 := ok.fol p q h2
  have h5 := ok.n
  exact (keepM_get (by omega) _ _).2 ⟨outM_get.2 ⟨p, bitsM_mem.2 h1, h2⟩, fun _ => by simpa using h3⟩
theorem step_ok {s : NSt} (ok : NOk s) (m : BitVec 32) (lab : ByteArray) (h1 : ∀ p ∈ bitsM m, p < 25) : Call1 Tryz.prog 93 [.vp (nfaV s), encM m, .v (.string lab)] (encM (stepM s m lab)) :=
 step_c s m lab ok.len ok.n h1 (fun p hp => by
  obtain ⟨q, _, h⟩ := outM_get.1 (bitsM_mem.1 hp)
  exact ok.fol _ _ h)
def fromM1 (s : NSt) (t : BitVec 32) (p : Int) : BitVec 32 := if p ≤ s.labs.length then t ||| ofM p else t
def fromM (s : NSt) (l : List Int) : BitVec 32 := l.foldl (fromM1 s) 0#32
theorem fromM_snoc (s : NSt) (l : List Int) (p : Int) : fromM s (l ++ [p]) = fromM1 s (fromM s l) p := by rw [fromM, List.foldl_append]; rfl
theorem fromM_get {s : NSt} (ok : NOk s) {q : Nat} : ∀ (l : List Int) (t : BitVec 32), (l.foldl (fromM1 s) t).getLsbD q = true ↔ t.getLsbD q = true ∨ ((q : Int) ∈ l ∧ q ≤ s.labs.length)
 | [], t => by simp
 | x :: l, t => by
  have hn := ok.n
  rw [List.foldl_cons, fromM_get ok l, fromM1, List.mem_cons]
  split
  ·rename_i h
   rw [BitVec.getLsbD_or, Bool.or_eq_true, ofM_get, decide_eq_true_eq]
   constructor
   ·rintro ((h | h) | h)
    ·exact .inl h
    ·exact .inr ⟨.inl h.2.2, by omega⟩
    ·exact .inr ⟨.inr h.1, h.2⟩
   ·rintro (h | ⟨h | h, h2⟩)
    ·exact .inl (.inl h)
    ·exact .inl (.inr ⟨by omega, by omega, h⟩)
    ·exact .inr ⟨h, h2⟩
  ·rename_i h
   constructor
   ·rintro (h | h)
    ·exact .inl h
    ·exact .inr ⟨.inr h.1, h.2⟩
   ·rintro (h | ⟨h | h, h2⟩)
    ·exact .inl h
    ·exfalso; omega
    ·exact .inr ⟨h, h2⟩
theorem fromM_lt {s : NSt} (ok : NOk s) (l : List Int) : ∀ p ∈ bitsM (fromM s l), p < 25 := fun p hp => by
 have := (fromM_get ok l 0#32).1 (bitsM_mem.1 hp)
 have := ok.n
 simp at *; omega
set_option maxRecDepth 100000 in
set_option maxHeartbeats 4000000 in
theorem nStep_c {s : NSt} (ok : NOk s) (l : List Int) (lab : ByteArray) (hl : l.length ≤ 1000000) : Call1 Tryz.prog 59 [.vp (nfaV s), .slc 1 (l.map encI) l.length, .v (.string lab)]
  (.slc 1 (encN (bitsM (stepM s (fromM s l) lab))) (bitsM (stepM s (fromM s l) lab)).length) := by
 have L := nLen_c s
 have S := step_ok ok (fromM s l) lab (fromM_lt ok l)
 have B := list_c (stepM s (fromM s l) lab)
 have O := fun p => of_c p
 have eZ : encM 0#32 = .v (.int .u32 0) := rfl
 generalize hR : stepM s (fromM s l) lab = R at *
 simp only [encM] at *
 (refine Call1.enter Tryz.func59 rfl (by kernel_rfl) (by kernel_rfl) rfl (by first | rfl | (simp only [go_sem, Bool.and_self, Bool.and_true, Bool.true_and])) (by first | rfl | (simp only [go_sem, Bool.and_self, Bool.and_true, Bool.true_and])) ?_; simp only [Tryz.ntmps59, Tryz.results59, List.length_cons, List.length_nil, Nat.reduceAdd, Nat.reduceSub, List.replicate_succ, List.replicate_zero, List.cons_append, List.nil_append])
 repeat (first | (with_reducible first | refine Stp.up ?_ | refine fun (K : AK) hK => ?_ | (refine hK _ ?_; clear hK K)) | simp only [go_sem] | with_reducible refine wA ?_ | clear hK K)
 refine awp_loopF (ι := Nat) (fun k => [(0, .vp (nfaV s)), (1, .slc 1 (l.map encI) l.length), (2, .v (.string lab)), (6, .v (.slice none 0 0)), (7, encM (fromM s (l.take k))), (12, .slc 1 (l.map encI) l.length), (13, .v (.int .i64 l.length)), (14, .v (.int .i64 k))]) (fun k => []) (fun k => l.length - k) (fun k => k ≤ l.length) 0 (by omega) ?_ ?_
 ·simp only [encM]
  (refine wk_mk ?_ ?_ ?_ <;> simp only [frm, List.foldl_cons, List.foldl_nil, List.replicate_succ, List.replicate_zero, WkT, WkO, AV.v.injEq, Value.int.injEq, Value.bool.injEq, Value.string.injEq, AV.vec.injEq, AV.ptr.injEq, true_or, or_true, false_or, or_false, AObj.mk.injEq, forall_eq_apply_imp_iff, forall_eq, forall_eq', go_sem])
  exact ⟨rfl, rfl⟩
 ·intro k hkl K hK
  simp only [encM]
  simp only [frm, List.foldl_cons, List.foldl_nil, List.replicate_succ, List.replicate_zero, go_sem]
  repeat (first | (with_reducible first | refine Stp.up ?_ | refine fun (K : AK) hK => ?_ | (refine hK _ ?_; clear hK K)) | simp only [go_sem] | with_reducible refine wA ?_ | clear hK K)
  refine AIf.part (fun h => ?_) (fun h => ?_)
  ·have hlt : k < l.length := by (try simp only [bne_iff_ne, ne_eq, bne_eq_false_iff_eq, beq_iff_eq, beq_eq_false_iff_ne, decide_eq_true_eq, decide_eq_false_iff_not, Bool.not_eq_eq_eq_not, Int.natCast_inj, Int.ofNat_lt, Int.ofNat_le] at h); omega
   have eG := getD_map encI l k [] hlt
   have eW := wrap_succ (k := k) (by omega)
   have hN := fromM_snoc s (l.take k) l[k]
   rw [← List.take_succ_eq_append_getElem hlt, fromM1] at hN
   have Ok := O l[k]
   simp only [encI] at eG
   repeat (first | (with_reducible first | refine Stp.up ?_ | refine fun (K : AK) hK => ?_ | (refine hK _ ?_; clear hK K)) | simp only [go_sem, eG] | with_reducible refine wA ?_ | clear hK K)
   refine ACallV.one L ?_
   repeat (first | (with_reducible first | refine Stp.up ?_ | refine fun (K : AK) hK => ?_ | (refine hK _ ?_; clear hK K)) | simp only [go_sem] | with_reducible refine wA ?_ | clear hK K)
   refine AIf.part (fun h => ?_) (fun h => ?_)
   ·rw [if_pos (by (try simp only [bne_iff_ne, ne_eq, bne_eq_false_iff_eq, beq_iff_eq, beq_eq_false_iff_ne, decide_eq_true_eq, decide_eq_false_iff_not, Bool.not_eq_eq_eq_not, Int.natCast_inj, Int.ofNat_lt, Int.ofNat_le] at h); omega)] at hN
    repeat (first | (with_reducible first | refine Stp.up ?_ | refine fun (K : AK) hK => ?_ | (refine hK _ ?_; clear hK K)) | simp only [go_sem] | with_reducible refine wA ?_ | clear hK K)
    refine ACallV.one Ok ?_
    repeat (first | (with_reducible first | refine Stp.up ?_ | refine fun (K : AK) hK => ?_ | (refine hK _ ?_; clear hK K)) | simp only [go_sem, msk_or] | with_reducible refine wA ?_ | clear hK K)
    refine LNext.mk (k + 1) (by omega) (by omega) ?_
    rw [hN]
    simp only [encM]
    (refine wk_mk ?_ ?_ ?_ <;> simp only [frm, List.foldl_cons, List.foldl_nil, List.replicate_succ, List.replicate_zero, WkT, WkO, AV.v.injEq, Value.int.injEq, Value.bool.injEq, Value.string.injEq, AV.vec.injEq, AV.ptr.injEq, true_or, or_true, false_or, or_false, AObj.mk.injEq, forall_eq_apply_imp_iff, forall_eq, forall_eq', go_sem])
    all_goals first | exact eW | skip
   ·rw [if_neg (by (try simp only [bne_iff_ne, ne_eq, bne_eq_false_iff_eq, beq_iff_eq, beq_eq_false_iff_ne, decide_eq_true_eq, decide_eq_false_iff_not, Bool.not_eq_eq_eq_not, Int.natCast_inj, Int.ofNat_lt, Int.ofNat_le] at h); omega)] at hN
    repeat (first | (with_reducible first | refine Stp.up ?_ | refine fun (K : AK) hK => ?_ | (refine hK _ ?_; clear hK K)) | simp only [go_sem] | with_reducible refine wA ?_ | clear hK K)
    refine LNext.mk (k + 1) (by omega) (by omega) ?_
    rw [hN]
    simp only [encM]
    (refine wk_mk ?_ ?_ ?_ <;> simp only [frm, List.foldl_cons, List.foldl_nil, List.replicate_succ, List.replicate_zero, WkT, WkO, AV.v.injEq, Value.int.injEq, Value.bool.injEq, Value.string.injEq, AV.vec.injEq, AV.ptr.injEq, true_or, or_true, false_or, or_false, AObj.mk.injEq, forall_eq_apply_imp_iff, forall_eq, forall_eq', go_sem])
    all_goals first | exact eW | skip
  ·have e1 : l.take k = l := List.take_of_length_le (by (try simp only [bne_iff_ne, ne_eq, bne_eq_false_iff_eq, beq_iff_eq, beq_eq_false_iff_ne, decide_eq_true_eq, decide_eq_false_iff_not, Bool.not_eq_eq_eq_not, Int.natCast_inj, Int.ofNat_lt, Int.ofNat_le] at h); omega)
   simp only [e1]
   repeat (first | (with_reducible first | refine Stp.up ?_ | refine fun (K : AK) hK => ?_ | (refine hK _ ?_; clear hK K)) | simp only [go_sem] | with_reducible refine wA ?_ | clear hK K)
   refine ACallV.one S ?_
   repeat (first | (with_reducible first | refine Stp.up ?_ | refine fun (K : AK) hK => ?_ | (refine hK _ ?_; clear hK K)) | simp only [go_sem] | with_reducible refine wA ?_ | clear hK K)
   refine ACallV.one B ?_
   repeat (first | (with_reducible first | refine Stp.up ?_ | refine fun (K : AK) hK => ?_ | (refine hK _ ?_; clear hK K)) | simp only [go_sem] | with_reducible refine wA ?_ | clear hK K)
   (refine AFz.of 40 rfl ?_; simp only [go_sem])
def runM (s : NSt) (w : List ByteArray) : BitVec 32 := w.foldl (stepM s) (ofM 0)
def takesM (s : NSt) (w : List ByteArray) : Bool := if w.length = 0 then s.em else runM s w &&& s.la != 0#32

end Go.Proofs.YtfflpdekojlnmaaGreatDoor
