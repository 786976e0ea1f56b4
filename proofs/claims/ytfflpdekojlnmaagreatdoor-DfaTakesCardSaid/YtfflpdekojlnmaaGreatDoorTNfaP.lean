/- nfa's sets: of, list; the rule of a range over a set. -/
import Derived.Test.YtfflpdekojlnmaaGreatDoorTLaid9
import Derived.Test.YtfflpdekojlnmaaGreatDoorTLang
set_option linter.unusedSimpArgs false
set_option linter.unusedVariables false
namespace Go.Proofs.YtfflpdekojlnmaaGreatDoor
open Go.RowKit

theorem encN_at {l : List Nat} {k : Nat} {x : List AV} (h : (encN l)[k]? = some x) : ∃ hk : k < l.length, x = [.v (.int .i64 (l[k] : Nat))] := by
 obtain ⟨h1, h2⟩ := List.getElem?_eq_some_iff.1 h
 simp only [encN, List.length_map] at h1
 exact ⟨h1, by rw [← h2]; simp [encN]⟩
theorem awp_rangeSet {n0 : Nat} {Q : AExit → AS → Prop} {t : List AV} {o : List (Option AObj)} {y : YSt} {g : Operand} {ps : Array Tmp} {assign body : Code} (m : BitVec 32) (id : Nat) (ho : o[id]? = some (some (boxM m))) (mm : Nat) (O : Nat → List (Option AObj)) (ok : Nat → Prop) (h0 : ok 0)
  (hg : (AS.mk t o y).ev g = .fn 138 [] [.ptr id 0 1 0 0]) (hdead : (O 0)[id]? = some none) (hwk : Wk n0 ⟨t, o, y⟩ ⟨keepT mm t, O 0, y⟩) (hA : okCode assign = true) (hB : okCode body = true) (hps : ps.size = 1)
  (hround : ∀ k (hk : k < (bitsM m).length), ok k → AWp Tryz.prog (O 0).length assign ⟨setAll ps.toList [.v (.int .i64 ((bitsM m)[k] : Nat))] (keepT mm t), O k, y⟩ (ARound Tryz.prog (O 0).length body (AEndR (O 0).length (keepT mm t) (ok (k + 1)) (O (k + 1)) y Q)))
  (hfin : ok (bitsM m).length → Q .normal ⟨keepT mm t, O (bitsM m).length, y⟩) : AWp Tryz.prog n0 (.rangeFunc g ps assign body) ⟨t, o, y⟩ Q := by
 have hl : (encN (bitsM m)).length = (bitsM m).length := by simp [encN]
 refine awp_rangeI (all_seq m) [id] (by simp) ?_ ?_ O (fun _ => y) ok h0 (keepT mm t) ?_ (by rfl) ?_ hwk hA hB ?_ ?_ (by rw [hl]; exact hfin)
 ·simp only [List.map_cons, List.map_nil, ho, Option.map_some]; rfl
 ·intro k ob hk
  match k, hk with
  | 0, hk => cases hk; rfl
  | k + 1, hk => simp at hk
 ·rw [hg]; rfl
 ·intro i hi ob
  obtain rfl : i = id := by simpa using hi
  rw [hdead]; intro h; cases h
 ·intro x hx
  obtain ⟨p, _, rfl⟩ := List.mem_map.1 hx
  exact hps.symm
 ·intro k x hk hx
  obtain ⟨hlt, rfl⟩ := encN_at hx
  exact hround k hlt hk

def ofM (p : Int) : BitVec 32 := if 0 ≤ p ∧ p ≤ 24 then 1#32 <<< p.toNat else 0#32
theorem ofM_get {p : Int} {i : Nat} : (ofM p).getLsbD i = decide (0 ≤ p ∧ p ≤ 24 ∧ i = p) := by
 rw [ofM]
 split
 ·rename_i h
  rw [BitVec.getLsbD_shiftLeft, BitVec.getLsbD_one, Bool.eq_iff_iff]
  simp; omega
 ·rename_i h
  rw [BitVec.getLsbD_zero, eq_comm, decide_eq_false_iff_not]; omega
set_option maxRecDepth 100000 in
theorem of_c (p : Int) : Call1 Tryz.prog 83 [.v (.int .i64 p)] (encM (ofM p)) := by
 have hS : 0 ≤ p ∧ p ≤ 24 → IntKind.u32.wrap (1 * 2 ^ min p.toNat 32) = ((ofM p).toNat : Nat) := fun h => by
  have e : min p.toNat 32 = p.toNat := by omega
  rw [ofM, if_pos h, e, msk_shl]
 have hZ : ¬ (0 ≤ p ∧ p ≤ 24) → ofM p = 0#32 := fun h => by rw [ofM, if_neg h]
 simp only [encM]
 rcases Int.lt_or_le p 0 with h1 | h1
 ·have b1 : decide (p < 0) = true := decide_eq_true h1
  rw [hZ (by omega)]
  (refine Call1.enter Tryz.func83 rfl (by kernel_rfl) (by kernel_rfl) rfl (by first | rfl | (simp only [go_sem, Bool.and_self, Bool.and_true, Bool.true_and])) (by first | rfl | (simp only [go_sem, Bool.and_self, Bool.and_true, Bool.true_and])) ?_; simp only [Tryz.ntmps83, Tryz.results83, List.length_cons, List.length_nil, Nat.reduceAdd, Nat.reduceSub, List.replicate_succ, List.replicate_zero, List.cons_append, List.nil_append])
  repeat (first | (with_reducible first | refine Stp.up ?_ | refine fun (K : AK) hK => ?_ | (refine hK _ ?_; clear hK K)) | simp only [go_sem, b1, Go.undef] | with_reducible refine wA ?_ | clear hK K)
  rfl
 ·have b1 : decide (p < 0) = false := decide_eq_false (by omega)
  rcases Int.lt_or_le 24 p with h2 | h2
  ·have b2 : decide (24 < p) = true := decide_eq_true h2
   rw [hZ (by omega)]
   (refine Call1.enter Tryz.func83 rfl (by kernel_rfl) (by kernel_rfl) rfl (by first | rfl | (simp only [go_sem, Bool.and_self, Bool.and_true, Bool.true_and])) (by first | rfl | (simp only [go_sem, Bool.and_self, Bool.and_true, Bool.true_and])) ?_; simp only [Tryz.ntmps83, Tryz.results83, List.length_cons, List.length_nil, Nat.reduceAdd, Nat.reduceSub, List.replicate_succ, List.replicate_zero, List.cons_append, List.nil_append])
   repeat (first | (with_reducible first | refine Stp.up ?_ | refine fun (K : AK) hK => ?_ | (refine hK _ ?_; clear hK K)) | simp only [go_sem, b1, b2, Go.undef] | with_reducible refine wA ?_ | clear hK K)
   rfl
  ·have b2 : decide (24 < p) = false := decide_eq_false (by omega)
   have e := hS ⟨h1, h2⟩
   have e0 : (0 ≤ p) = True := eq_true h1
   (refine Call1.enter Tryz.func83 rfl (by kernel_rfl) (by kernel_rfl) rfl (by first | rfl | (simp only [go_sem, Bool.and_self, Bool.and_true, Bool.true_and])) (by first | rfl | (simp only [go_sem, Bool.and_self, Bool.and_true, Bool.true_and])) ?_; simp only [Tryz.ntmps83, Tryz.results83, List.length_cons, List.length_nil, Nat.reduceAdd, Nat.reduceSub, List.replicate_succ, List.replicate_zero, List.cons_append, List.nil_append])
   repeat (first | (with_reducible first | refine Stp.up ?_ | refine fun (K : AK) hK => ?_ | (refine hK _ ?_; clear hK K)) | simp only [go_sem, b1, b2, e, e0, Go.undef] | with_reducible refine wA ?_ | clear hK K)
set_option maxRecDepth 100000 in
theorem list_c (m : BitVec 32) : Call1 Tryz.prog 88 [encM m] (.slc 1 (encN (bitsM m)) (bitsM m).length) := by
 have A := setAll_e m
 have hb := bitsM_len m
 simp only [boxM, encM] at *
 (refine Call1.enter Tryz.func88 rfl (by kernel_rfl) (by kernel_rfl) rfl (by first | rfl | (simp only [go_sem, Bool.and_self, Bool.and_true, Bool.true_and])) (by first | rfl | (simp only [go_sem, Bool.and_self, Bool.and_true, Bool.true_and])) ?_; simp only [Tryz.ntmps88, Tryz.results88, List.length_cons, List.length_nil, Nat.reduceAdd, Nat.reduceSub, List.replicate_succ, List.replicate_zero, List.cons_append, List.nil_append])
 repeat (first | (with_reducible first | refine Stp.up ?_ | refine fun (K : AK) hK => ?_ | (refine hK _ ?_; clear hK K)) | simp only [go_sem] | with_reducible refine wA ?_ | clear hK K)
 refine ACallV.fr [] A (by simp) ?_ ?_ ?_ ?_ ?_
 ·rfl
 ·rfl
 ·rfl
 ·intro k ob hk; simp at hk
 repeat (first | (with_reducible first | refine Stp.up ?_ | refine fun (K : AK) hK => ?_ | (refine hK _ ?_; clear hK K)) | simp only [go_sem] | with_reducible refine wA ?_ | clear hK K)
 refine asem_turn (turn_cell (k := 0) (i := 0) (j := 0) 3 1 (by decide) rfl (by decide) rfl rfl) (by kernel_rfl) ?_
 simp only [List.length_cons, List.length_nil, Nat.reduceAdd, List.cons_append, List.nil_append, List.set_cons_zero]
 refine awp_rangeSet m 1 rfl 3 (fun k => [some ⟨79, 1, false, [[.vec 2 k]]⟩, none, some ⟨3, 1, true, encN ((bitsM m).take k)⟩]) (fun _ => True) trivial ?_ rfl ?_ (by kernel_rfl) (by kernel_rfl) rfl ?_ ?_
 ·rfl
 ·(refine wk_mk ?_ ?_ ?_ <;> simp only [frm, List.foldl_cons, List.foldl_nil, List.replicate_succ, List.replicate_zero, WkT, WkO, AV.v.injEq, Value.int.injEq, Value.bool.injEq, Value.string.injEq, AV.vec.injEq, AV.ptr.injEq, true_or, or_true, false_or, or_false, AObj.mk.injEq, forall_eq_apply_imp_iff, forall_eq, forall_eq', go_sem])
  rfl
 ·intro k hk _
  have eS : encN ((bitsM m).take (k + 1)) = encN ((bitsM m).take k) ++ [[.v (.int .i64 ((bitsM m)[k] : Nat))]] := by rw [List.take_succ_eq_append_getElem hk, encN, List.map_append]; rfl
  have eL : (encN ((bitsM m).take k)).length = k := by simp [encN]; omega
  repeat (first | (with_reducible first | refine Stp.up ?_ | refine fun (K : AK) hK => ?_ | (refine hK _ ?_; clear hK K)) | simp only [go_sem] | with_reducible refine wA ?_ | clear hK K)
  rw [eS]
  (refine wk_mk ?_ ?_ ?_ <;> simp only [frm, List.foldl_cons, List.foldl_nil, List.replicate_succ, List.replicate_zero, WkT, WkO, AV.v.injEq, Value.int.injEq, Value.bool.injEq, Value.string.injEq, AV.vec.injEq, AV.ptr.injEq, true_or, or_true, false_or, or_false, AObj.mk.injEq, forall_eq_apply_imp_iff, forall_eq, forall_eq', go_sem])
 ·intro _
  have e1 : (bitsM m).take (bitsM m).length = bitsM m := List.take_length
  have eL : (encN (bitsM m)).length = (bitsM m).length := by simp [encN]
  repeat (first | (with_reducible first | refine Stp.up ?_ | refine fun (K : AK) hK => ?_ | (refine hK _ ?_; clear hK K)) | simp only [go_sem, e1] | with_reducible refine wA ?_ | clear hK K)
  rw [← eL]
  (refine AFz.of 40 rfl ?_; simp only [go_sem])
  trace_state
end Go.Proofs.YtfflpdekojlnmaaGreatDoor

namespace Go.Proofs.YtfflpdekojlnmaaGreatDoor
open Go.RowKit

structure NSt where
 labs : List ByteArray
 fs : List (BitVec 32)
 la : BitVec 32
 em : Bool
def NSt.row (i : Nat) (s : NSt) : List AV := .vec i s.labs.length :: (s.fs.map encM ++ [encM s.la, .v (.bool s.em)])
def NSt.os (s : NSt) : List (Option AObj) := [some ⟨99, 28, false, [s.row 1]⟩, some ⟨9, 1, true, s.labs.map encS⟩]
def lnk1 (b : BitVec 32) (fs : List (BitVec 32)) (p : Nat) : List (BitVec 32) := fs.set p (fs.getD p 0#32 ||| b)
def lnkL (b : BitVec 32) (l : List Nat) (fs : List (BitVec 32)) : List (BitVec 32) := l.foldl (lnk1 b) fs
theorem lnkL_len (b : BitVec 32) : ∀ (l : List Nat) (fs : List (BitVec 32)), (lnkL b l fs).length = fs.length
 | [], fs => rfl
 | p :: l, fs => by rw [lnkL, List.foldl_cons, ← lnkL, lnkL_len b l, lnk1, List.length_set]
theorem lnkL_snoc (b : BitVec 32) (l : List Nat) (p : Nat) (fs : List (BitVec 32)) : lnkL b (l ++ [p]) fs = lnk1 b (lnkL b l fs) p := by
 rw [lnkL, List.foldl_append]; rfl
theorem fs_drop {fs : List (BitVec 32)} {l : AV} {X : List AV} {p : Nat} (h : p < fs.length) : ∃ r, (l :: (fs.map encM ++ X)).drop (1 + p * 1) = encM (fs.getD p 0#32) :: r := by
 refine ⟨(fs.map encM ++ X).drop (p + 1), ?_⟩
 rw [Nat.mul_one, Nat.add_comm, List.drop_succ_cons, List.drop_eq_getElem_cons (by simp; omega), List.getElem_append_left (by simpa using h), List.getElem_map]
 simp [List.getD, h]
theorem fs_spl {fs : List (BitVec 32)} {l : AV} {X : List AV} {p : Nat} (x : BitVec 32) (h : p < fs.length) : (l :: (fs.map encM ++ X)).take (1 + p * 1) ++ encM x :: (fs.map encM ++ X).drop (1 + p * 1) = l :: ((fs.set p x).map encM ++ X) := by
 rw [Nat.mul_one, Nat.add_comm, List.take_succ_cons, List.cons_append, List.map_set, ← List.set_append_left p (encM x) (by simpa using h), List.set_eq_take_append_cons_drop, if_pos (by simp; omega)]
theorem wf_nfa (n : Nat) (fs : List (BitVec 32)) (x y : Value) : wfL n (fs.map encM ++ [.v x, .v y]) = true := by
 induction fs with
 | nil => rfl
 | cons z l ih => simp only [List.map_cons, List.cons_append, wfL, encM, AV.wf, Bool.true_and]; exact ih
theorem ren_nfa (f : Nat → Nat) (fs : List (BitVec 32)) (x y : Value) : renL f (fs.map encM ++ [.v x, .v y]) = fs.map encM ++ [.v x, .v y] := by
 induction fs with
 | nil => rfl
 | cons z l ih => simp only [List.map_cons, List.cons_append, renL, ih]; rfl
attribute [go_sem] wf_nfa ren_nfa
set_option maxRecDepth 100000 in
theorem link_e (s : NSt) (a b : BitVec 32) (hl : s.fs.length = 25) (ha : ∀ p, p ∈ bitsM a → p < 25) :
  CallE Tryz.prog 85 [.ptr 0 0 28 0 0, encM a, encM b] s.os (.tup []) (NSt.os { s with fs := lnkL b (bitsM a) s.fs }) := by
 have A := setAll_e a
 obtain ⟨labs, fs, la, em⟩ := s
 simp only [NSt.os, NSt.row, boxM] at *
 simp only [encM] at A
 simp only [encM]
 (refine CallE.enter Tryz.func85 rfl (by kernel_rfl) (by kernel_rfl) rfl ?_; simp only [Tryz.ntmps85, Tryz.results85, List.length_cons, List.length_nil, Nat.reduceAdd, Nat.reduceSub, List.replicate_succ, List.replicate_zero, List.cons_append, List.nil_append])
 repeat (first | (with_reducible first | refine Stp.up ?_ | refine fun (K : AK) hK => ?_ | refine wE ?_ | refine wK ?_ | refine wF ?_ | (refine hK _ ?_; clear hK K)) | simp only [go_sem] | with_reducible refine wA ?_ | clear hK K)
 refine ACallV.fr [] A (by simp) ?_ ?_ ?_ ?_ ?_
 ·rfl
 ·rfl
 ·rfl
 ·intro k ob hk; simp at hk
 repeat (first | (with_reducible first | refine Stp.up ?_ | refine fun (K : AK) hK => ?_ | refine wE ?_ | refine wK ?_ | refine wF ?_ | (refine hK _ ?_; clear hK K)) | simp only [go_sem] | with_reducible refine wA ?_ | clear hK K)
 refine awp_rangeSet a 4 (by simp only [boxM, encM]; rfl) 6 (fun k => [some ⟨99, 28, false, [.vec 1 labs.length :: ((lnkL b ((bitsM a).take k) fs).map encM ++ [.v (.int .u32 la.toNat), .v (.bool em)])]⟩, some ⟨9, 1, true, labs.map encS⟩, some ⟨61, 1, false, [[.ptr 0 0 28 0 0]]⟩, some ⟨96, 1, false, [[.v (.int .u32 b.toNat)]]⟩, none]) (fun _ => True) trivial ?_ rfl ?_ (by kernel_rfl) (by kernel_rfl) rfl ?_ ?_
 ·rfl
 ·(refine wk_mk ?_ ?_ ?_ <;> simp only [frm, List.foldl_cons, List.foldl_nil, List.replicate_succ, List.replicate_zero, WkT, WkO, AV.v.injEq, Value.int.injEq, Value.bool.injEq, Value.string.injEq, AV.vec.injEq, AV.ptr.injEq, true_or, or_true, false_or, or_false, AObj.mk.injEq, forall_eq_apply_imp_iff, forall_eq, forall_eq', go_sem])
  rfl
 ·intro k hk _
  have hp := ha _ (List.getElem_mem hk)
  rw [List.take_succ_eq_append_getElem hk, lnkL_snoc, lnk1]
  have hL : (lnkL b ((bitsM a).take k) fs).length = 25 := by rw [lnkL_len]; exact hl
  generalize lnkL b ((bitsM a).take k) fs = F at *
  generalize (bitsM a)[k] = p at *
  obtain ⟨r, eD⟩ := fs_drop (l := .vec 1 labs.length) (X := [.v (.int .u32 la.toNat), .v (.bool em)]) (fs := F) (p := p) (by omega)
  have eS := fs_spl (l := .vec 1 labs.length) (X := [.v (.int .u32 la.toNat), .v (.bool em)]) (fs := F) (p := p) (F.getD p 0#32 ||| b) (by omega)
  have eT : (p : Int).toNat = p := Int.toNat_natCast p
  have eB : 0 ≤ (p : Int) ∧ (p : Int) < 25 := by omega
  simp only [encM] at eD eS
  repeat (first | (with_reducible first | refine Stp.up ?_ | refine fun (K : AK) hK => ?_ | refine wE ?_ | refine wK ?_ | refine wF ?_ | (refine hK _ ?_; clear hK K)) | simp only [go_sem, eD, msk_or] | with_reducible refine wA ?_ | clear hK K)
  rw [eS]
  (refine wk_mk ?_ ?_ ?_ <;> simp only [frm, List.foldl_cons, List.foldl_nil, List.replicate_succ, List.replicate_zero, WkT, WkO, AV.v.injEq, Value.int.injEq, Value.bool.injEq, Value.string.injEq, AV.vec.injEq, AV.ptr.injEq, true_or, or_true, false_or, or_false, AObj.mk.injEq, forall_eq_apply_imp_iff, forall_eq, forall_eq', go_sem])
 ·intro _
  have e1 : (bitsM a).take (bitsM a).length = bitsM a := List.take_length
  repeat (first | (with_reducible first | refine Stp.up ?_ | refine fun (K : AK) hK => ?_ | refine wE ?_ | refine wK ?_ | refine wF ?_ | (refine hK _ ?_; clear hK K)) | simp only [go_sem, e1] | with_reducible refine wA ?_ | clear hK K)
  (refine ⟨?_, ?_, ?_⟩ <;> simp only [WkT, WkO, AV.v.injEq, Value.int.injEq, Value.bool.injEq, Value.string.injEq, AV.vec.injEq, AV.ptr.injEq, true_or, or_true, false_or, or_false, AObj.mk.injEq, forall_eq_apply_imp_iff, forall_eq, forall_eq', go_sem])
end Go.Proofs.YtfflpdekojlnmaaGreatDoor

namespace Go.Proofs.YtfflpdekojlnmaaGreatDoor

structure RSt where
 st : NSt
 op : Bool
 ends : BitVec 32
 first : BitVec 32
def rowStep (x : Ex) (b : NSt × BitVec 32 × BitVec 32) (r : RSt) : RSt :=
 ⟨{ b.1 with fs := lnkL b.2.1 (bitsM r.ends) b.1.fs }, if exEmpty x then r.op else false, (if exEmpty x then r.ends else 0#32) ||| b.2.2, if r.op then r.first ||| b.2.1 else r.first⟩
mutual
def bld : Ex → NSt → NSt × BitVec 32 × BitVec 32
 | .mk k s l, st =>
  if k = 1 then ({ st with labs := st.labs ++ [s] }, ofM ((st.labs.length + 1 : Nat) : Int), ofM ((st.labs.length + 1 : Nat) : Int))
  else if k = 2 then ((bldS l ⟨st, true, 0#32, 0#32⟩).st, (bldS l ⟨st, true, 0#32, 0#32⟩).first, (bldS l ⟨st, true, 0#32, 0#32⟩).ends)
  else if k = 4 ∨ k = 5 then ({ (bldA l (st, 0#32, 0#32)).1 with fs := lnkL (bldA l (st, 0#32, 0#32)).2.1 (bitsM (bldA l (st, 0#32, 0#32)).2.2) (bldA l (st, 0#32, 0#32)).1.fs }, (bldA l (st, 0#32, 0#32)).2.1, (bldA l (st, 0#32, 0#32)).2.2)
  else bldA l (st, 0#32, 0#32)
def bldS : List Ex → RSt → RSt
 | [], r => r
 | x :: xs, r => bldS xs (rowStep x (bld x r.st) r)
def bldA : List Ex → NSt × BitVec 32 × BitVec 32 → NSt × BitVec 32 × BitVec 32
 | [], r => r
 | x :: xs, r => bldA xs ((bld x r.1).1, r.2.1 ||| (bld x r.1).2.1, r.2.2 ||| (bld x r.1).2.2)
end
theorem bldS_app : ∀ (l m : List Ex) (r : RSt), bldS (l ++ m) r = bldS m (bldS l r)
 | [], m, r => by simp [bldS]
 | x :: l, m, r => by simp only [List.cons_append, bldS]; exact bldS_app l m _
theorem bldA_app : ∀ (l m : List Ex) (r : NSt × BitVec 32 × BitVec 32), bldA (l ++ m) r = bldA m (bldA l r)
 | [], m, r => by simp [bldA]
 | x :: l, m, r => by simp only [List.cons_append, bldA]; exact bldA_app l m _

theorem getD_set' {fs : List (BitVec 32)} {p q : Nat} {x : BitVec 32} (h : p < fs.length) : (fs.set p x).getD q 0#32 = if q = p then x else fs.getD q 0#32 := by
 simp only [List.getD, List.getElem?_set]
 by_cases e : p = q
 ·subst e; simp [h]
 ·rw [if_neg e, if_neg (fun h => e h.symm)]
theorem lnkL_get {b : BitVec 32} : ∀ {l : List Nat} {fs : List (BitVec 32)} {p q : Nat}, (∀ j ∈ l, j < fs.length) → (((lnkL b l fs).getD p 0#32).getLsbD q = true ↔ (fs.getD p 0#32).getLsbD q = true ∨ (p ∈ l ∧ b.getLsbD q = true))
 | [], fs, p, q, _ => by simp [lnkL]
 | j :: l, fs, p, q, hl => by
  have hj : j < fs.length := hl j (by simp)
  rw [lnkL, List.foldl_cons, ← lnkL, lnkL_get (fun k hk => by rw [lnk1, List.length_set]; exact hl k (by simp [hk])), lnk1, getD_set' hj, List.mem_cons]
  by_cases e : p = j
  ·subst e
   simp only [if_true, BitVec.getLsbD_or, Bool.or_eq_true, true_or, true_and]
   constructor
   ·rintro ((h | h) | ⟨_, h⟩)
    ·exact .inl h
    ·exact .inr h
    ·exact .inr h
   ·rintro (h | h)
    ·exact .inl (.inl h)
    ·exact .inl (.inr h)
  ·rw [if_neg e]; simp [e]

structure BLaw (x : Ex) (st : NSt) (r : NSt × BitVec 32 × BitVec 32) : Prop where
 labs : r.1.labs = st.labs ++ labE x
 len : r.1.fs.length = 25
 la : r.1.la = st.la
 em : r.1.em = st.em
 fst : ∀ p, r.2.1.getLsbD p = true ↔ Fst x st.labs.length p
 lst : ∀ p, r.2.2.getLsbD p = true ↔ Lst x st.labs.length p
 fol : ∀ p q, (r.1.fs.getD p 0#32).getLsbD q = true ↔ (st.fs.getD p 0#32).getLsbD q = true ∨ Fol x st.labs.length p q
structure SLaw (l : List Ex) (r R : RSt) : Prop where
 labs : R.st.labs = r.st.labs ++ labEs l
 len : R.st.fs.length = 25
 la : R.st.la = r.st.la
 em : R.st.em = r.st.em
 op : R.op = (r.op && exEmAll l)
 fst : ∀ p, R.first.getLsbD p = true ↔ r.first.getLsbD p = true ∨ (r.op = true ∧ FstS l r.st.labs.length p)
 lst : ∀ p, R.ends.getLsbD p = true ↔ (exEmAll l = true ∧ r.ends.getLsbD p = true) ∨ LstS l r.st.labs.length p
 fol : ∀ p q, (R.st.fs.getD p 0#32).getLsbD q = true ↔ (r.st.fs.getD p 0#32).getLsbD q = true ∨ FolS l r.st.labs.length p q ∨ (r.ends.getLsbD p = true ∧ FstS l r.st.labs.length q)
structure ALaw (l : List Ex) (r R : NSt × BitVec 32 × BitVec 32) : Prop where
 labs : R.1.labs = r.1.labs ++ labEs l
 len : R.1.fs.length = 25
 la : R.1.la = r.1.la
 em : R.1.em = r.1.em
 fst : ∀ p, R.2.1.getLsbD p = true ↔ r.2.1.getLsbD p = true ∨ FstA l r.1.labs.length p
 lst : ∀ p, R.2.2.getLsbD p = true ↔ r.2.2.getLsbD p = true ∨ LstA l r.1.labs.length p
 fol : ∀ p q, (R.1.fs.getD p 0#32).getLsbD q = true ↔ (r.1.fs.getD p 0#32).getLsbD q = true ∨ FolA l r.1.labs.length p q

theorem bldS_law : ∀ (l : List Ex) (r : RSt), (∀ x ∈ l, ∀ st, st.fs.length = 25 → st.labs.length + (labE x).length ≤ 24 → BLaw x st (bld x st)) → r.st.fs.length = 25 → (∀ p ∈ bitsM r.ends, p < 25) → r.st.labs.length + (labEs l).length ≤ 24 → SLaw l r (bldS l r)
 | [], r, _, hf, he, hb => by
  rw [bldS]
  exact ⟨by simp [labEs], hf, rfl, rfl, by simp [exEmAll], fun p => by simp [FstS], fun p => by simp [LstS, exEmAll], fun p q => by simp [FolS, FstS]⟩
 | x :: xs, r, hx, hf, he, hb => by
  rw [labEs, List.length_append] at hb
  have B := hx x (by simp) r.st hf (by omega)
  generalize hbx : bld x r.st = b at B
  have hlen : (r.st.labs ++ labE x).length = r.st.labs.length + (labE x).length := by simp
  have hends : ∀ p ∈ bitsM ((rowStep x b r).ends), p < 25 := fun p hp => by
   have := bitsM_mem.1 hp
   simp only [rowStep] at this
   rw [BitVec.getLsbD_or, Bool.or_eq_true, B.lst] at this
   rcases this with h | h
   ·split at h
    ·exact he p (bitsM_mem.2 h)
    ·simp at h
   ·have := Lst_range x h; omega
  have S := bldS_law xs (rowStep x b r) (fun y hy => hx y (by simp [hy])) (by simp only [rowStep, lnkL_len]; exact B.len) hends (by simp only [rowStep, B.labs, hlen]; omega)
  have hfol : ∀ p q, ((rowStep x b r).st.fs.getD p 0#32).getLsbD q = true ↔ ((r.st.fs.getD p 0#32).getLsbD q = true ∨ Fol x r.st.labs.length p q) ∨ (r.ends.getLsbD p = true ∧ Fst x r.st.labs.length q) := fun p q => by
   show ((lnkL _ _ _).getD p 0#32).getLsbD q = true ↔ _
   rw [lnkL_get (fun j hj => by rw [B.len]; exact he j hj), B.fol, B.fst, bitsM_mem]
  have hl2 : (rowStep x b r).st.labs.length = r.st.labs.length + (labE x).length := by simp only [rowStep, B.labs, hlen]
  have hE : ∀ p, (rowStep x b r).ends.getLsbD p = true ↔ (exEmpty x = true ∧ r.ends.getLsbD p = true) ∨ Lst x r.st.labs.length p := fun p => by
   simp only [rowStep]
   rw [BitVec.getLsbD_or, Bool.or_eq_true, B.lst]
   cases exEmpty x <;> simp
  have hF : ∀ p, (rowStep x b r).first.getLsbD p = true ↔ r.first.getLsbD p = true ∨ (r.op = true ∧ Fst x r.st.labs.length p) := fun p => by
   simp only [rowStep]
   cases r.op
   ·simp
   ·simp only [if_true, BitVec.getLsbD_or, Bool.or_eq_true, B.fst, true_and]
  have hO : (rowStep x b r).op = (r.op && exEmpty x) := by simp only [rowStep]; cases r.op <;> cases exEmpty x <;> rfl
  rw [bldS, hbx]
  refine ⟨?_, S.len, ?_, ?_, ?_, fun p => ?_, fun p => ?_, fun p q => ?_⟩
  ·rw [S.labs]; simp only [rowStep]; rw [B.labs, labEs, List.append_assoc]
  ·rw [S.la]; exact B.la
  ·rw [S.em]; exact B.em
  ·rw [S.op, hO, exEmAll, Bool.and_assoc]
  ·rw [S.fst, hF, hO, hl2, FstS]; grind
  ·rw [S.lst, hE, hl2, LstS, exEmAll]; grind
  ·rw [S.fol, hfol, hE, hl2, FstS, FolS]; grind
theorem bldA_law : ∀ (l : List Ex) (r : NSt × BitVec 32 × BitVec 32), (∀ x ∈ l, ∀ st, st.fs.length = 25 → st.labs.length + (labE x).length ≤ 24 → BLaw x st (bld x st)) → r.1.fs.length = 25 → r.1.labs.length + (labEs l).length ≤ 24 → ALaw l r (bldA l r)
 | [], r, _, hf, hb => by
  rw [bldA]
  exact ⟨by simp [labEs], hf, rfl, rfl, fun p => by simp [FstA], fun p => by simp [LstA], fun p q => by simp [FolA]⟩
 | x :: xs, r, hx, hf, hb => by
  rw [labEs, List.length_append] at hb
  have B := hx x (by simp) r.1 hf (by omega)
  rw [bldA]
  generalize bld x r.1 = b at B ⊢
  have hlen : b.1.labs.length = r.1.labs.length + (labE x).length := by rw [B.labs]; simp
  have A := bldA_law xs (b.1, r.2.1 ||| b.2.1, r.2.2 ||| b.2.2) (fun y hy => hx y (by simp [hy])) B.len (by rw [hlen]; omega)
  refine ⟨?_, A.len, ?_, ?_, fun p => ?_, fun p => ?_, fun p q => ?_⟩
  ·rw [A.labs, B.labs, labEs, List.append_assoc]
  ·rw [A.la]; exact B.la
  ·rw [A.em]; exact B.em
  ·rw [A.fst, hlen, FstA, BitVec.getLsbD_or, Bool.or_eq_true, B.fst]; grind
  ·rw [A.lst, hlen, LstA, BitVec.getLsbD_or, Bool.or_eq_true, B.lst]; grind
  ·rw [A.fol, hlen, FolA, B.fol]; grind
theorem bld_law (x : Ex) : ∀ st : NSt, st.fs.length = 25 → st.labs.length + (labE x).length ≤ 24 → BLaw x st (bld x st) := by
 induction x using Ex.ind with
 | h k s l ih =>
  intro st hf hb
  by_cases h1 : k = 1
  ·subst h1
   have hl : labE (.mk 1 s l) = [s] := by rw [labE, if_pos rfl]
   rw [hl] at hb
   simp only [List.length_singleton] at hb
   have hp : ∀ p, (ofM ((st.labs.length + 1 : Nat) : Int)).getLsbD p = true ↔ p = st.labs.length + 1 := fun p => by
    rw [ofM_get, decide_eq_true_eq]; omega
   rw [bld, if_pos rfl]
   exact ⟨by rw [hl], hf, rfl, rfl, fun p => by rw [Fst, if_pos rfl]; exact hp p, fun p => by rw [Lst, if_pos rfl]; exact hp p, fun p q => by rw [Fol, if_pos rfl, or_false]⟩
  ·rw [labE_of h1] at hb
   rw [bld, if_neg h1]
   by_cases h2 : k = 2
   ·subst h2
    rw [if_pos rfl]
    have S := bldS_law l ⟨st, true, 0#32, 0#32⟩ ih hf (by rw [bitsM_zero]; intro p hp; cases hp) hb
    refine ⟨by rw [labE_of h1]; exact S.labs, S.len, S.la, S.em, fun p => ?_, fun p => ?_, fun p q => ?_⟩
    ·rw [Fst, if_neg h1, if_pos rfl, S.fst]; simp
    ·rw [Lst, if_neg h1, if_pos rfl, S.lst]; simp
    ·rw [Fol, if_neg h1, if_pos rfl, S.fol]; simp
   ·rw [if_neg h2]
    have A := bldA_law l (st, 0#32, 0#32) ih hf hb
    have hF : ∀ p, Fst (.mk k s l) st.labs.length p ↔ FstA l st.labs.length p := fun p => by rw [Fst, if_neg h1, if_neg h2]
    have hL : ∀ p, Lst (.mk k s l) st.labs.length p ↔ LstA l st.labs.length p := fun p => by rw [Lst, if_neg h1, if_neg h2]
    have aF : ∀ p, (bldA l (st, 0#32, 0#32)).2.1.getLsbD p = true ↔ FstA l st.labs.length p := fun p => by rw [A.fst]; simp
    have aL : ∀ p, (bldA l (st, 0#32, 0#32)).2.2.getLsbD p = true ↔ LstA l st.labs.length p := fun p => by rw [A.lst]; simp
    by_cases h4 : k = 4 ∨ k = 5
    ·rw [if_pos h4]
     refine ⟨by rw [labE_of h1]; exact A.labs, by rw [lnkL_len]; exact A.len, A.la, A.em, fun p => by rw [hF, aF], fun p => by rw [hL, aL], fun p q => ?_⟩
     show ((lnkL _ _ _).getD p 0#32).getLsbD q = true ↔ _
     rw [lnkL_get (fun j hj => by
      have := LstA_range ((aL j).1 (bitsM_mem.1 hj))
      rw [A.len]; omega), A.fol, aF, bitsM_mem, aL, Fol, if_neg h1, if_neg h2]
     grind
    ·rw [if_neg h4]
     refine ⟨by rw [labE_of h1]; exact A.labs, A.len, A.la, A.em, fun p => by rw [hF, aF], fun p => by rw [hL, aL], fun p q => ?_⟩
     rw [A.fol, Fol, if_neg h1, if_neg h2]
     grind
end Go.Proofs.YtfflpdekojlnmaaGreatDoor
