/- nfa: the positions that are built: link. -/
import Derived.Test.YtmdkgajjekbanaaDoorKSets
set_option linter.unusedSimpArgs false
set_option linter.unusedVariables false
namespace Go.Proofs.YtmdkgajjekbanaaDoor
open Go.RowKit

/-- positions, as they are built: labels, follow, last, empty -/
structure NSt where
  labs : List ByteArray
  fs : List (BitVec 32)
  la : BitVec 32
  em : Bool
def NSt.row (i : Nat) (s : NSt) : List AV := .vec i s.labs.length :: (s.fs.map encM ++ [encM s.la, .v (.bool s.em)])
/-- the objects that bear them -/
def NSt.os (s : NSt) : List (Option AObj) := [some ⟨72, 28, false, [s.row 1]⟩, some ⟨9, 1, true, s.labs.map encS⟩]
/-- positions that follow one more -/
def lnk1 (b : BitVec 32) (fs : List (BitVec 32)) (p : Nat) : List (BitVec 32) := fs.set p (fs.getD p 0#32 ||| b)
def lnkL (b : BitVec 32) (l : List Nat) (fs : List (BitVec 32)) : List (BitVec 32) := l.foldl (lnk1 b) fs
theorem lnkL_len (b : BitVec 32) : ∀ (l : List Nat) (fs : List (BitVec 32)), (lnkL b l fs).length = fs.length
  | [], fs => rfl
  | p :: l, fs => by rw [lnkL, List.foldl_cons, ← lnkL, lnkL_len b l, lnk1, List.length_set]
theorem lnkL_snoc (b : BitVec 32) (l : List Nat) (p : Nat) (fs : List (BitVec 32)) : lnkL b (l ++ [p]) fs = lnk1 b (lnkL b l fs) p := by
  rw [lnkL, List.foldl_append]; rfl
theorem fs_drop {fs : List (BitVec 32)} {l : AV} {X : List AV} {p : Nat} (h : p < fs.length) : ∃ r, (l :: (fs.map encM ++ X)).drop (1 + p * 1) = encM (fs.getD p 0#32) :: r := by
  refine ⟨(fs.map encM ++ X).drop (p + 1), ?_⟩
  rw [Nat.mul_one, Nat.add_comm, List.drop_succ_cons, List.drop_eq_getElem_cons (by simp; omega), List.getElem_append_left (by simpa using h), List.getElem_map]
  simp [List.getD, h]
theorem fs_spl {fs : List (BitVec 32)} {l : AV} {X : List AV} {p : Nat} (x : BitVec 32) (h : p < fs.length) : (l :: (fs.map encM ++ X)).take (1 + p * 1) ++ encM x :: (fs.map encM ++ X).drop (1 + p * 1) = l :: ((fs.set p x).map encM ++ X) := by
  rw [Nat.mul_one, Nat.add_comm, List.take_succ_cons, List.cons_append, List.map_set, ← List.set_append_left p (encM x) (by simpa using h), List.set_eq_take_append_cons_drop, if_pos (by simp; omega)]
theorem wf_nfa (n : Nat) (fs : List (BitVec 32)) (x y : Value) : wfL n (fs.map encM ++ [.v x, .v y]) = true := by
  induction fs with
  | nil => rfl
  | cons z l ih => simp only [List.map_cons, List.cons_append, wfL, encM, AV.wf, Bool.true_and]; exact ih
theorem ren_nfa (f : Nat → Nat) (fs : List (BitVec 32)) (x y : Value) : renL f (fs.map encM ++ [.v x, .v y]) = fs.map encM ++ [.v x, .v y] := by
  induction fs with
  | nil => rfl
  | cons z l ih => simp only [List.map_cons, List.cons_append, renL, ih]; rfl
attribute [go_sem] wf_nfa ren_nfa
set_option maxRecDepth 100000 in
theorem link_e (s : NSt) (a b : BitVec 32) (hl : s.fs.length = 25) (ha : ∀ p, p ∈ bitsM a → p < 25) :
    CallE Tryd.prog 64 [.ptr 0 0 28 0 0, encM a, encM b] s.os (.tup []) (NSt.os { s with fs := lnkL b (bitsM a) s.fs }) := by
  have A := setAll_e a
  obtain ⟨labs, fs, la, em⟩ := s
  simp only [NSt.os, NSt.row, boxM] at *
  simp only [encM] at A
  simp only [encM]
  (refine CallE.enter Tryd.func64 rfl (by kernel_rfl) (by kernel_rfl) rfl ?_; simp only [Tryd.ntmps64, Tryd.results64, List.length_cons, List.length_nil, Nat.reduceAdd, Nat.reduceSub, List.replicate_succ, List.replicate_zero, List.cons_append, List.nil_append])
  repeat (first | (with_reducible first | refine Stp.up ?_ | refine fun (K : AS → Prop) hK => ?_ | refine awp_drawE (by decide +kernel) (by kernel_rfl) ?_ | refine awp_draw (by kernel_rfl) (by decide) ?_ | refine awp_boxes (by kernel_rfl) (by kernel_rfl) (by kernel_rfl) ?_ | refine adrawE_k (by decide) ?_ | refine adrawE_eff (by decide) ?_ | refine abox_plain (by decide) ?_ | refine abox_al ?_ | refine abox_st ?_ | refine adrawG_k (by decide) ?_ | refine adrawG_e (by decide) ?_) | (with_reducible refine hK _ ?_; clear hK; clear K) | simp only [go_sem, Nat.reduceAdd, Nat.reduceSub, Nat.reduceMul, Nat.reduceLeDiff, Nat.reduceEqDiff, Nat.reduceLT, Int.reduceToNat, ↓reduceIte, reduceCtorEq, Int.reduceLE, Int.reduceLT, Int.reduceNeg, Int.reduceEq, Int.reduceBEq, Int.reduceBNe] | (with_reducible refine And.intro (by omega) ?_) | (clear hK; clear K))
  refine ACallV.fr [] A (by simp) ?_ ?_ ?_ ?_ ?_
  · rfl
  · rfl
  · rfl
  · intro k ob hk; simp at hk
  repeat (first | (with_reducible first | refine Stp.up ?_ | refine fun (K : AS → Prop) hK => ?_ | refine awp_drawE (by decide +kernel) (by kernel_rfl) ?_ | refine awp_draw (by kernel_rfl) (by decide) ?_ | refine awp_boxes (by kernel_rfl) (by kernel_rfl) (by kernel_rfl) ?_ | refine adrawE_k (by decide) ?_ | refine adrawE_eff (by decide) ?_ | refine abox_plain (by decide) ?_ | refine abox_al ?_ | refine abox_st ?_ | refine adrawG_k (by decide) ?_ | refine adrawG_e (by decide) ?_) | (with_reducible refine hK _ ?_; clear hK; clear K) | simp only [go_sem, Nat.reduceAdd, Nat.reduceSub, Nat.reduceMul, Nat.reduceLeDiff, Nat.reduceEqDiff, Nat.reduceLT, Int.reduceToNat, ↓reduceIte, reduceCtorEq, Int.reduceLE, Int.reduceLT, Int.reduceNeg, Int.reduceEq, Int.reduceBEq, Int.reduceBNe] | (with_reducible refine And.intro (by omega) ?_) | (clear hK; clear K))
  refine awp_rangeSet a 4 (by simp only [boxM, encM]; rfl) 6 (fun k => [some ⟨72, 28, false, [.vec 1 labs.length :: ((lnkL b ((bitsM a).take k) fs).map encM ++ [.v (.int .u32 la.toNat), .v (.bool em)])]⟩, some ⟨9, 1, true, labs.map encS⟩, some ⟨29, 1, false, [[.ptr 0 0 28 0 0]]⟩, some ⟨69, 1, false, [[.v (.int .u32 b.toNat)]]⟩, none]) (fun _ => True) trivial ?_ rfl ?_ (by kernel_rfl) (by kernel_rfl) rfl ?_ ?_
  · rfl
  · (refine wk_mk ?_ ?_ ?_ <;> simp only [frm, List.foldl_cons, List.foldl_nil, List.replicate_succ, List.replicate_zero, WkT, WkO, AV.v.injEq, Value.int.injEq, Value.bool.injEq, Value.string.injEq, AV.vec.injEq, AV.ptr.injEq, true_or, or_true, false_or, or_false, AObj.mk.injEq, forall_eq_apply_imp_iff, forall_eq, forall_eq', go_sem, Nat.reduceAdd, Nat.reduceSub, Nat.reduceMul, Nat.reduceLeDiff, Nat.reduceEqDiff, Nat.reduceLT, Int.reduceToNat, ↓reduceIte, reduceCtorEq, Int.reduceLE, Int.reduceLT, Int.reduceNeg, Int.reduceEq, Int.reduceBEq, Int.reduceBNe])
    rfl
  · intro k hk _
    have hp := ha _ (List.getElem_mem hk)
    rw [List.take_succ_eq_append_getElem hk, lnkL_snoc, lnk1]
    have hL : (lnkL b ((bitsM a).take k) fs).length = 25 := by rw [lnkL_len]; exact hl
    generalize lnkL b ((bitsM a).take k) fs = F at *
    generalize (bitsM a)[k] = p at *
    obtain ⟨r, eD⟩ := fs_drop (l := .vec 1 labs.length) (X := [.v (.int .u32 la.toNat), .v (.bool em)]) (fs := F) (p := p) (by omega)
    have eS := fs_spl (l := .vec 1 labs.length) (X := [.v (.int .u32 la.toNat), .v (.bool em)]) (fs := F) (p := p) (F.getD p 0#32 ||| b) (by omega)
    have eT : (p : Int).toNat = p := Int.toNat_natCast p
    have eB : 0 ≤ (p : Int) ∧ (p : Int) < 25 := by omega
    simp only [encM] at eD eS
    repeat (first | (with_reducible first | refine Stp.up ?_ | refine fun (K : AS → Prop) hK => ?_ | refine awp_drawE (by decide +kernel) (by kernel_rfl) ?_ | refine awp_draw (by kernel_rfl) (by decide) ?_ | refine awp_boxes (by kernel_rfl) (by kernel_rfl) (by kernel_rfl) ?_ | refine adrawE_k (by decide) ?_ | refine adrawE_eff (by decide) ?_ | refine abox_plain (by decide) ?_ | refine abox_al ?_ | refine abox_st ?_ | refine adrawG_k (by decide) ?_ | refine adrawG_e (by decide) ?_) | (with_reducible refine hK _ ?_; clear hK; clear K) | simp only [go_sem, Nat.reduceAdd, Nat.reduceSub, Nat.reduceMul, Nat.reduceLeDiff, Nat.reduceEqDiff, Nat.reduceLT, Int.reduceToNat, ↓reduceIte, reduceCtorEq, Int.reduceLE, Int.reduceLT, Int.reduceNeg, Int.reduceEq, Int.reduceBEq, Int.reduceBNe, eD, msk_or] | (with_reducible refine And.intro (by omega) ?_) | (clear hK; clear K))
    rw [eS]
    (refine wk_mk ?_ ?_ ?_ <;> simp only [frm, List.foldl_cons, List.foldl_nil, List.replicate_succ, List.replicate_zero, WkT, WkO, AV.v.injEq, Value.int.injEq, Value.bool.injEq, Value.string.injEq, AV.vec.injEq, AV.ptr.injEq, true_or, or_true, false_or, or_false, AObj.mk.injEq, forall_eq_apply_imp_iff, forall_eq, forall_eq', go_sem, Nat.reduceAdd, Nat.reduceSub, Nat.reduceMul, Nat.reduceLeDiff, Nat.reduceEqDiff, Nat.reduceLT, Int.reduceToNat, ↓reduceIte, reduceCtorEq, Int.reduceLE, Int.reduceLT, Int.reduceNeg, Int.reduceEq, Int.reduceBEq, Int.reduceBNe])
  · intro _
    have e1 : (bitsM a).take (bitsM a).length = bitsM a := List.take_length
    repeat (first | (with_reducible first | refine Stp.up ?_ | refine fun (K : AS → Prop) hK => ?_ | refine awp_drawE (by decide +kernel) (by kernel_rfl) ?_ | refine awp_draw (by kernel_rfl) (by decide) ?_ | refine awp_boxes (by kernel_rfl) (by kernel_rfl) (by kernel_rfl) ?_ | refine adrawE_k (by decide) ?_ | refine adrawE_eff (by decide) ?_ | refine abox_plain (by decide) ?_ | refine abox_al ?_ | refine abox_st ?_ | refine adrawG_k (by decide) ?_ | refine adrawG_e (by decide) ?_) | (with_reducible refine hK _ ?_; clear hK; clear K) | simp only [go_sem, Nat.reduceAdd, Nat.reduceSub, Nat.reduceMul, Nat.reduceLeDiff, Nat.reduceEqDiff, Nat.reduceLT, Int.reduceToNat, ↓reduceIte, reduceCtorEq, Int.reduceLE, Int.reduceLT, Int.reduceNeg, Int.reduceEq, Int.reduceBEq, Int.reduceBNe, e1] | (with_reducible refine And.intro (by omega) ?_) | (clear hK; clear K))
    (refine ⟨?_, ?_, ?_⟩ <;> simp only [WkT, WkO, AV.v.injEq, Value.int.injEq, Value.bool.injEq, Value.string.injEq, AV.vec.injEq, AV.ptr.injEq, true_or, or_true, false_or, or_false, AObj.mk.injEq, forall_eq_apply_imp_iff, forall_eq, forall_eq', go_sem, Nat.reduceAdd, Nat.reduceSub, Nat.reduceMul, Nat.reduceLeDiff, Nat.reduceEqDiff, Nat.reduceLT, Int.reduceToNat, ↓reduceIte, reduceCtorEq, Int.reduceLE, Int.reduceLT, Int.reduceNeg, Int.reduceEq, Int.reduceBEq, Int.reduceBNe])
end Go.Proofs.YtmdkgajjekbanaaDoor
