/- nfa's sets: of, list; the rule of a range over a set. -/
import Derived.Test.YtfflpdekojlnmaaDoorLLaid9
set_option linter.unusedSimpArgs false
set_option linter.unusedVariables false
namespace Go.Proofs.YtfflpdekojlnmaaDoor
open Go.RowKit

theorem encN_at {l : List Nat} {k : Nat} {x : List AV} (h : (encN l)[k]? = some x) : ∃ hk : k < l.length, x = [.v (.int .i64 (l[k] : Nat))] := by
 obtain ⟨h1, h2⟩ := List.getElem?_eq_some_iff.1 h
 simp only [encN, List.length_map] at h1
 exact ⟨h1, by rw [← h2]; simp [encN]⟩
theorem awp_rangeSet {n0 : Nat} {Q : AExit → AS → Prop} {t : List AV} {o : List (Option AObj)} {y : YSt} {g : Operand} {ps : Array Tmp} {assign body : Code} (m : BitVec 32) (id : Nat) (ho : o[id]? = some (some (boxM m))) (mm : Nat) (O : Nat → List (Option AObj)) (ok : Nat → Prop) (h0 : ok 0)
  (hg : (AS.mk t o y).ev g = .fn 79 [] [.ptr id 0 1 0 0]) (hdead : (O 0)[id]? = some none) (hwk : Wk n0 ⟨t, o, y⟩ ⟨keepT mm t, O 0, y⟩) (hA : okCode assign = true) (hB : okCode body = true) (hps : ps.size = 1)
  (hround : ∀ k (hk : k < (bitsM m).length), ok k → AWp Tryd.prog (O 0).length assign ⟨setAll ps.toList [.v (.int .i64 ((bitsM m)[k] : Nat))] (keepT mm t), O k, y⟩ (ARound Tryd.prog (O 0).length body (AEndR (O 0).length (keepT mm t) (ok (k + 1)) (O (k + 1)) y Q)))
  (hfin : ok (bitsM m).length → Q .normal ⟨keepT mm t, O (bitsM m).length, y⟩) : AWp Tryd.prog n0 (.rangeFunc g ps assign body) ⟨t, o, y⟩ Q := by
 have hl : (encN (bitsM m)).length = (bitsM m).length := by simp [encN]
 refine awp_rangeI (all_seq m) [id] (by simp) ?_ ?_ O (fun _ => y) ok h0 (keepT mm t) ?_ (by rfl) ?_ hwk hA hB ?_ ?_ (by rw [hl]; exact hfin)
 ·simp only [List.map_cons, List.map_nil, ho, Option.map_some]; rfl
 ·intro k ob hk
  match k, hk with
  | 0, hk => cases hk; rfl
  | k + 1, hk => simp at hk
 ·rw [hg]; rfl
 ·intro i hi ob
  obtain rfl : i = id := by simpa using hi
  rw [hdead]; intro h; cases h
 ·intro x hx
  obtain ⟨p, _, rfl⟩ := List.mem_map.1 hx
  exact hps.symm
 ·intro k x hk hx
  obtain ⟨hlt, rfl⟩ := encN_at hx
  exact hround k hlt hk

def ofM (p : Int) : BitVec 32 := if 0 ≤ p ∧ p ≤ 24 then 1#32 <<< p.toNat else 0#32
theorem ofM_get {p : Int} {i : Nat} : (ofM p).getLsbD i = decide (0 ≤ p ∧ p ≤ 24 ∧ i = p) := by
 rw [ofM]
 split
 ·rename_i h
  rw [BitVec.getLsbD_shiftLeft, BitVec.getLsbD_one, Bool.eq_iff_iff]
  simp; omega
 ·rename_i h
  rw [BitVec.getLsbD_zero, eq_comm, decide_eq_false_iff_not]; omega
set_option maxRecDepth 100000 in
theorem of_c (p : Int) : Call1 Tryd.prog 38 [.v (.int .i64 p)] (encM (ofM p)) := by
 have hS : 0 ≤ p ∧ p ≤ 24 → IntKind.u32.wrap (1 * 2 ^ min p.toNat 32) = ((ofM p).toNat : Nat) := fun h => by
  have e : min p.toNat 32 = p.toNat := by omega
  rw [ofM, if_pos h, e, msk_shl]
 have hZ : ¬ (0 ≤ p ∧ p ≤ 24) → ofM p = 0#32 := fun h => by rw [ofM, if_neg h]
 simp only [encM]
 rcases Int.lt_or_le p 0 with h1 | h1
 ·have b1 : decide (p < 0) = true := decide_eq_true h1
  rw [hZ (by omega)]
  (refine Call1.enter Tryd.func38 rfl (by kernel_rfl) (by kernel_rfl) rfl (by first | rfl | (simp only [go_sem, Bool.and_self, Bool.and_true, Bool.true_and])) (by first | rfl | (simp only [go_sem, Bool.and_self, Bool.and_true, Bool.true_and])) ?_; simp only [Tryd.ntmps38, Tryd.results38, List.length_cons, List.length_nil, Nat.reduceAdd, Nat.reduceSub, List.replicate_succ, List.replicate_zero, List.cons_append, List.nil_append])
  repeat (first | (with_reducible first | refine Stp.up ?_ | refine fun (K : AK) hK => ?_ | (refine hK _ ?_; clear hK K)) | simp only [go_sem, b1, Go.undef] | with_reducible refine wA ?_ | clear hK K)
  rfl
 ·have b1 : decide (p < 0) = false := decide_eq_false (by omega)
  rcases Int.lt_or_le 24 p with h2 | h2
  ·have b2 : decide (24 < p) = true := decide_eq_true h2
   rw [hZ (by omega)]
   (refine Call1.enter Tryd.func38 rfl (by kernel_rfl) (by kernel_rfl) rfl (by first | rfl | (simp only [go_sem, Bool.and_self, Bool.and_true, Bool.true_and])) (by first | rfl | (simp only [go_sem, Bool.and_self, Bool.and_true, Bool.true_and])) ?_; simp only [Tryd.ntmps38, Tryd.results38, List.length_cons, List.length_nil, Nat.reduceAdd, Nat.reduceSub, List.replicate_succ, List.replicate_zero, List.cons_append, List.nil_append])
   repeat (first | (with_reducible first | refine Stp.up ?_ | refine fun (K : AK) hK => ?_ | (refine hK _ ?_; clear hK K)) | simp only [go_sem, b1, b2, Go.undef] | with_reducible refine wA ?_ | clear hK K)
   rfl
  ·have b2 : decide (24 < p) = false := decide_eq_false (by omega)
   have e := hS ⟨h1, h2⟩
   have e0 : (0 ≤ p) = True := eq_true h1
   (refine Call1.enter Tryd.func38 rfl (by kernel_rfl) (by kernel_rfl) rfl (by first | rfl | (simp only [go_sem, Bool.and_self, Bool.and_true, Bool.true_and])) (by first | rfl | (simp only [go_sem, Bool.and_self, Bool.and_true, Bool.true_and])) ?_; simp only [Tryd.ntmps38, Tryd.results38, List.length_cons, List.length_nil, Nat.reduceAdd, Nat.reduceSub, List.replicate_succ, List.replicate_zero, List.cons_append, List.nil_append])
   repeat (first | (with_reducible first | refine Stp.up ?_ | refine fun (K : AK) hK => ?_ | (refine hK _ ?_; clear hK K)) | simp only [go_sem, b1, b2, e, e0, Go.undef] | with_reducible refine wA ?_ | clear hK K)
set_option maxRecDepth 100000 in
theorem list_c (m : BitVec 32) : Call1 Tryd.prog 45 [encM m] (.slc 1 (encN (bitsM m)) (bitsM m).length) := by
 have A := setAll_e m
 have hb := bitsM_len m
 simp only [boxM, encM] at *
 (refine Call1.enter Tryd.func45 rfl (by kernel_rfl) (by kernel_rfl) rfl (by first | rfl | (simp only [go_sem, Bool.and_self, Bool.and_true, Bool.true_and])) (by first | rfl | (simp only [go_sem, Bool.and_self, Bool.and_true, Bool.true_and])) ?_; simp only [Tryd.ntmps45, Tryd.results45, List.length_cons, List.length_nil, Nat.reduceAdd, Nat.reduceSub, List.replicate_succ, List.replicate_zero, List.cons_append, List.nil_append])
 repeat (first | (with_reducible first | refine Stp.up ?_ | refine fun (K : AK) hK => ?_ | (refine hK _ ?_; clear hK K)) | simp only [go_sem] | with_reducible refine wA ?_ | clear hK K)
 refine ACallV.fr [] A (by simp) ?_ ?_ ?_ ?_ ?_
 ·rfl
 ·rfl
 ·rfl
 ·intro k ob hk; simp at hk
 repeat (first | (with_reducible first | refine Stp.up ?_ | refine fun (K : AK) hK => ?_ | (refine hK _ ?_; clear hK K)) | simp only [go_sem] | with_reducible refine wA ?_ | clear hK K)
 refine asem_turn (turn_cell (k := 0) (i := 0) (j := 0) 3 1 (by decide) rfl (by decide) rfl rfl) (by kernel_rfl) ?_
 simp only [List.length_cons, List.length_nil, Nat.reduceAdd, List.cons_append, List.nil_append, List.set_cons_zero]
 refine awp_rangeSet m 1 rfl 3 (fun k => [some ⟨75, 1, false, [[.vec 2 k]]⟩, none, some ⟨3, 1, true, encN ((bitsM m).take k)⟩]) (fun _ => True) trivial ?_ rfl ?_ (by kernel_rfl) (by kernel_rfl) rfl ?_ ?_
 ·rfl
 ·(refine wk_mk ?_ ?_ ?_ <;> simp only [frm, List.foldl_cons, List.foldl_nil, List.replicate_succ, List.replicate_zero, WkT, WkO, AV.v.injEq, Value.int.injEq, Value.bool.injEq, Value.string.injEq, AV.vec.injEq, AV.ptr.injEq, true_or, or_true, false_or, or_false, AObj.mk.injEq, forall_eq_apply_imp_iff, forall_eq, forall_eq', go_sem])
  rfl
 ·intro k hk _
  have eS : encN ((bitsM m).take (k + 1)) = encN ((bitsM m).take k) ++ [[.v (.int .i64 ((bitsM m)[k] : Nat))]] := by rw [List.take_succ_eq_append_getElem hk, encN, List.map_append]; rfl
  have eL : (encN ((bitsM m).take k)).length = k := by simp [encN]; omega
  repeat (first | (with_reducible first | refine Stp.up ?_ | refine fun (K : AK) hK => ?_ | (refine hK _ ?_; clear hK K)) | simp only [go_sem] | with_reducible refine wA ?_ | clear hK K)
  rw [eS]
  (refine wk_mk ?_ ?_ ?_ <;> simp only [frm, List.foldl_cons, List.foldl_nil, List.replicate_succ, List.replicate_zero, WkT, WkO, AV.v.injEq, Value.int.injEq, Value.bool.injEq, Value.string.injEq, AV.vec.injEq, AV.ptr.injEq, true_or, or_true, false_or, or_false, AObj.mk.injEq, forall_eq_apply_imp_iff, forall_eq, forall_eq', go_sem])
 ·intro _
  have e1 : (bitsM m).take (bitsM m).length = bitsM m := List.take_length
  have eL : (encN (bitsM m)).length = (bitsM m).length := by simp [encN]
  repeat (first | (with_reducible first | refine Stp.up ?_ | refine fun (K : AK) hK => ?_ | (refine hK _ ?_; clear hK K)) | simp only [go_sem, e1] | with_reducible refine wA ?_ | clear hK K)
  rw [← eL]
  (refine AFz.of 40 rfl ?_; simp only [go_sem])
  trace_state
end Go.Proofs.YtfflpdekojlnmaaDoor

namespace Go.Proofs.YtfflpdekojlnmaaDoor
open Go.RowKit

structure NSt where
 labs : List ByteArray
 fs : List (BitVec 32)
 la : BitVec 32
 em : Bool
def NSt.row (i : Nat) (s : NSt) : List AV := .vec i s.labs.length :: (s.fs.map encM ++ [encM s.la, .v (.bool s.em)])
def NSt.os (s : NSt) : List (Option AObj) := [some ⟨67, 28, false, [s.row 1]⟩, some ⟨9, 1, true, s.labs.map encS⟩]
def lnk1 (b : BitVec 32) (fs : List (BitVec 32)) (p : Nat) : List (BitVec 32) := fs.set p (fs.getD p 0#32 ||| b)
def lnkL (b : BitVec 32) (l : List Nat) (fs : List (BitVec 32)) : List (BitVec 32) := l.foldl (lnk1 b) fs
theorem lnkL_len (b : BitVec 32) : ∀ (l : List Nat) (fs : List (BitVec 32)), (lnkL b l fs).length = fs.length
 | [], fs => rfl
 | p :: l, fs => by rw [lnkL, List.foldl_cons, ← lnkL, lnkL_len b l, lnk1, List.length_set]
theorem lnkL_snoc (b : BitVec 32) (l : List Nat) (p : Nat) (fs : List (BitVec 32)) : lnkL b (l ++ [p]) fs = lnk1 b (lnkL b l fs) p := by
 rw [lnkL, List.foldl_append]; rfl
theorem fs_drop {fs : List (BitVec 32)} {l : AV} {X : List AV} {p : Nat} (h : p < fs.length) : ∃ r, (l :: (fs.map encM ++ X)).drop (1 + p * 1) = encM (fs.getD p 0#32) :: r := by
 refine ⟨(fs.map encM ++ X).drop (p + 1), ?_⟩
 rw [Nat.mul_one, Nat.add_comm, List.drop_succ_cons, List.drop_eq_getElem_cons (by simp; omega), List.getElem_append_left (by simpa using h), List.getElem_map]
 simp [List.getD, h]
theorem fs_spl {fs : List (BitVec 32)} {l : AV} {X : List AV} {p : Nat} (x : BitVec 32) (h : p < fs.length) : (l :: (fs.map encM ++ X)).take (1 + p * 1) ++ encM x :: (fs.map encM ++ X).drop (1 + p * 1) = l :: ((fs.set p x).map encM ++ X) := by
 rw [Nat.mul_one, Nat.add_comm, List.take_succ_cons, List.cons_append, List.map_set, ← List.set_append_left p (encM x) (by simpa using h), List.set_eq_take_append_cons_drop, if_pos (by simp; omega)]
theorem wf_nfa (n : Nat) (fs : List (BitVec 32)) (x y : Value) : wfL n (fs.map encM ++ [.v x, .v y]) = true := by
 induction fs with
 | nil => rfl
 | cons z l ih => simp only [List.map_cons, List.cons_append, wfL, encM, AV.wf, Bool.true_and]; exact ih
theorem ren_nfa (f : Nat → Nat) (fs : List (BitVec 32)) (x y : Value) : renL f (fs.map encM ++ [.v x, .v y]) = fs.map encM ++ [.v x, .v y] := by
 induction fs with
 | nil => rfl
 | cons z l ih => simp only [List.map_cons, List.cons_append, renL, ih]; rfl
attribute [go_sem] wf_nfa ren_nfa
set_option maxRecDepth 100000 in
theorem link_e (s : NSt) (a b : BitVec 32) (hl : s.fs.length = 25) (ha : ∀ p, p ∈ bitsM a → p < 25) :
  CallE Tryd.prog 40 [.ptr 0 0 28 0 0, encM a, encM b] s.os (.tup []) (NSt.os { s with fs := lnkL b (bitsM a) s.fs }) := by
 have A := setAll_e a
 obtain ⟨labs, fs, la, em⟩ := s
 simp only [NSt.os, NSt.row, boxM] at *
 simp only [encM] at A
 simp only [encM]
 (refine CallE.enter Tryd.func40 rfl (by kernel_rfl) (by kernel_rfl) rfl ?_; simp only [Tryd.ntmps40, Tryd.results40, List.length_cons, List.length_nil, Nat.reduceAdd, Nat.reduceSub, List.replicate_succ, List.replicate_zero, List.cons_append, List.nil_append])
 repeat (first | (with_reducible first | refine Stp.up ?_ | refine fun (K : AK) hK => ?_ | refine wE ?_ | refine wK ?_ | refine wF ?_ | (refine hK _ ?_; clear hK K)) | simp only [go_sem] | with_reducible refine wA ?_ | clear hK K)
 refine ACallV.fr [] A (by simp) ?_ ?_ ?_ ?_ ?_
 ·rfl
 ·rfl
 ·rfl
 ·intro k ob hk; simp at hk
 repeat (first | (with_reducible first | refine Stp.up ?_ | refine fun (K : AK) hK => ?_ | refine wE ?_ | refine wK ?_ | refine wF ?_ | (refine hK _ ?_; clear hK K)) | simp only [go_sem] | with_reducible refine wA ?_ | clear hK K)
 refine awp_rangeSet a 4 (by simp only [boxM, encM]; rfl) 6 (fun k => [some ⟨67, 28, false, [.vec 1 labs.length :: ((lnkL b ((bitsM a).take k) fs).map encM ++ [.v (.int .u32 la.toNat), .v (.bool em)])]⟩, some ⟨9, 1, true, labs.map encS⟩, some ⟨45, 1, false, [[.ptr 0 0 28 0 0]]⟩, some ⟨64, 1, false, [[.v (.int .u32 b.toNat)]]⟩, none]) (fun _ => True) trivial ?_ rfl ?_ (by kernel_rfl) (by kernel_rfl) rfl ?_ ?_
 ·rfl
 ·(refine wk_mk ?_ ?_ ?_ <;> simp only [frm, List.foldl_cons, List.foldl_nil, List.replicate_succ, List.replicate_zero, WkT, WkO, AV.v.injEq, Value.int.injEq, Value.bool.injEq, Value.string.injEq, AV.vec.injEq, AV.ptr.injEq, true_or, or_true, false_or, or_false, AObj.mk.injEq, forall_eq_apply_imp_iff, forall_eq, forall_eq', go_sem])
  rfl
 ·intro k hk _
  have hp := ha _ (List.getElem_mem hk)
  rw [List.take_succ_eq_append_getElem hk, lnkL_snoc, lnk1]
  have hL : (lnkL b ((bitsM a).take k) fs).length = 25 := by rw [lnkL_len]; exact hl
  generalize lnkL b ((bitsM a).take k) fs = F at *
  generalize (bitsM a)[k] = p at *
  obtain ⟨r, eD⟩ := fs_drop (l := .vec 1 labs.length) (X := [.v (.int .u32 la.toNat), .v (.bool em)]) (fs := F) (p := p) (by omega)
  have eS := fs_spl (l := .vec 1 labs.length) (X := [.v (.int .u32 la.toNat), .v (.bool em)]) (fs := F) (p := p) (F.getD p 0#32 ||| b) (by omega)
  have eT : (p : Int).toNat = p := Int.toNat_natCast p
  have eB : 0 ≤ (p : Int) ∧ (p : Int) < 25 := by omega
  simp only [encM] at eD eS
  repeat (first | (with_reducible first | refine Stp.up ?_ | refine fun (K : AK) hK => ?_ | refine wE ?_ | refine wK ?_ | refine wF ?_ | (refine hK _ ?_; clear hK K)) | simp only [go_sem, eD, msk_or] | with_reducible refine wA ?_ | clear hK K)
  rw [eS]
  (refine wk_mk ?_ ?_ ?_ <;> simp only [frm, List.foldl_cons, List.foldl_nil, List.replicate_succ, List.replicate_zero, WkT, WkO, AV.v.injEq, Value.int.injEq, Value.bool.injEq, Value.string.injEq, AV.vec.injEq, AV.ptr.injEq, true_or, or_true, false_or, or_false, AObj.mk.injEq, forall_eq_apply_imp_iff, forall_eq, forall_eq', go_sem])
 ·intro _
  have e1 : (bitsM a).take (bitsM a).length = bitsM a := List.take_length
  repeat (first | (with_reducible first | refine Stp.up ?_ | refine fun (K : AK) hK => ?_ | refine wE ?_ | refine wK ?_ | refine wF ?_ | (refine hK _ ?_; clear hK K)) | simp only [go_sem, e1] | with_reducible refine wA ?_ | clear hK K)
  (refine ⟨?_, ?_, ?_⟩ <;> simp only [WkT, WkO, AV.v.injEq, Value.int.injEq, Value.bool.injEq, Value.string.injEq, AV.vec.injEq, AV.ptr.injEq, true_or, or_true, false_or, or_false, AObj.mk.injEq, forall_eq_apply_imp_iff, forall_eq, forall_eq', go_sem])
end Go.Proofs.YtfflpdekojlnmaaDoor
