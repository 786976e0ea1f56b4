/- an automaton's labels; rows that are alike. -/
import Derived.Test.YtfflpdekojlnmaaGreatDoorTDfaG
import Derived.Shelf.SlMaps.Equal
set_option linter.unusedSimpArgs false
set_option linter.unusedVariables false
namespace Go.Proofs.YtfflpdekojlnmaaGreatDoor
open Go.RowKit

set_option maxRecDepth 100000 in
set_option maxHeartbeats 4000000 in
theorem clS_e (l : List ByteArray) (hl : l.length ≤ 1000000) (hne : l ≠ []) : CallE Tryz.prog 47 [.slc 1 (l.map encS) l.length] [] (.vec 0 l.length) [some ⟨9, 1, true, l.map encS⟩] := by
 have hpos : 0 < l.length := by cases l <;> simp_all
 have eL : (l.map encS).length = l.length := by simp
 (refine CallE.enter Tryz.func47 rfl (by kernel_rfl) (by kernel_rfl) rfl ?_; simp only [Tryz.ntmps47, Tryz.results47, List.length_cons, List.length_nil, Nat.reduceAdd, Nat.reduceSub, List.replicate_succ, List.replicate_zero, List.cons_append, List.nil_append])
 repeat (first | (with_reducible first | refine Stp.up ?_ | refine fun (K : AK) hK => ?_ | (refine hK _ ?_; clear hK K)) | simp only [go_sem, eL] | with_reducible refine wA ?_ | clear hK K)
 refine ⟨fun e => hne (by simpa using e), ?_⟩
 have eT : (l.map encS).take l.length = l.map encS := List.take_of_length_le (by omega)
 repeat (first | (with_reducible first | refine Stp.up ?_ | refine fun (K : AK) hK => ?_ | (refine hK _ ?_; clear hK K)) | simp only [go_sem, eL, eT] | with_reducible refine wA ?_ | clear hK K)
 (refine ⟨?_, ?_, ?_⟩ <;> simp only [WkT, WkO, AV.v.injEq, Value.int.injEq, Value.bool.injEq, Value.string.injEq, AV.vec.injEq, AV.ptr.injEq, true_or, or_true, false_or, or_false, AObj.mk.injEq, forall_eq_apply_imp_iff, forall_eq, forall_eq', go_sem])
set_option maxRecDepth 100000 in
theorem clS_0 : Call1 Tryz.prog 47 [.slc 1 [] 0] (.slc 1 [] 0) := by
 refine ⟨⟨rfl, rfl⟩, by kernel_rfl, fun D nu w vargs hro hra => ?_⟩
 obtain ⟨x, rfl, hx⟩ := ras_one hra
 obtain ⟨a, c, rfl⟩ := ra_empty hx
 have key : Calls Tryz.prog 47 #[.slice a 0 c] w (fun e w' => ∃ b, e = .returned (.slice b 0 0) ∧ Below w.heap.size w w') := by
  have hq : ∀ w, (binOp .eql 26 (.slice a 0 c) (.slice none 0 0)).run Tryz.prog w = .ok (.bool a.isNone) w := fun w => (sl_nil (by kernel_rfl)).1
  have HB := Lib.hid (fun ob => ((Below.refl w.heap.size w).alloc (Nat.le_refl _) ob))
  cases a with
  | none =>
   clear hx hra hro
   go_enter Tryz.func47, Tryz.ntmps47
   go_wp2
   go_ret
   exact ⟨none, rfl, .refl _ _⟩
  | some a =>
   clear hx hra hro
   go_enter Tryz.func47, Tryz.ntmps47
   go_wp2
   go_ret
   exact ⟨some _, rfl, HB.out _⟩
 refine key.mono ?_
 rintro e w' ⟨b, rfl, hb⟩
 refine ⟨_, nu, [], .slc 1 [] 0, rfl, mono_below hb, hro.below hb, ?_, rfl, rfl⟩
 cases b with
 | none => exact .slcNil 1
 | some b => exact .slcOdd 1 b
theorem clS_c (l : List ByteArray) (hl : l.length ≤ 1000000) : Call1 Tryz.prog 47 [strsA l] (strsA l) := by
 by_cases h : l = []
 ·subst h; exact clS_0
 ·exact (clS_e l hl h).to1 8 rfl ⟨by simp, by simp, wf_encS _ _⟩ (by simp only [go_sem]) (wf_encS _ _)
set_option maxRecDepth 100000 in
theorem dlabels_c (A : ADt) (hl : A.labs.length ≤ 1000000) : Call1 Tryz.prog 19 [.vp (autoV A)] (strsA A.labs) := by
 have CC := clS_c A.labs hl
 simp only [autoV, gV, strsA, List.cons_append, List.nil_append] at *
 (refine Call1.enter Tryz.func19 rfl (by kernel_rfl) (by kernel_rfl) rfl (by first | rfl | (simp only [go_sem, Bool.and_self, Bool.and_true, Bool.true_and])) (by first | rfl | (simp only [go_sem, Bool.and_self, Bool.and_true, Bool.true_and])) ?_; simp only [Tryz.ntmps19, Tryz.results19, List.length_cons, List.length_nil, Nat.reduceAdd, Nat.reduceSub, List.replicate_succ, List.replicate_zero, List.cons_append, List.nil_append])
 repeat (first | (with_reducible first | refine Stp.up ?_ | refine fun (K : AK) hK => ?_ | (refine hK _ ?_; clear hK K)) | simp only [go_sem] | clear hK K)
 refine ACallV.one CC ?_
 repeat (first | (with_reducible first | refine Stp.up ?_ | refine fun (K : AK) hK => ?_ | (refine hK _ ?_; clear hK K)) | simp only [go_sem] | clear hK K)
 (refine AFz.of 40 rfl ?_; simp only [go_sem])
end Go.Proofs.YtfflpdekojlnmaaGreatDoor

namespace Go.Proofs.YtfflpdekojlnmaaGreatDoor
open Go.RowKit Go.Shelf

def equalSRen : Go.Shelf.Ren := ⟨fun | 6 => 43 | n => n, fun | 23 => 84 | 24 => 84 | 26 => 9 | 27 => 3 | 4 => 4 | 3 => 3 | 0 => 0 | 36 => 57 | n => n, fun | n => n⟩
theorem equalSLays : SlLaysEq.n6 Tryz.prog equalSRen := {
 mixed := by kernel_rfl
 f6 := ⟨Tryz.f43.name, by decide, Tryz.func43⟩
 t0 := by kernel_rfl
 a0 := fun w => by kernel_rfl
 z0 := fun w => by kernel_rfl
 v0 := fun w => by kernel_rfl
 t3 := by kernel_rfl
 a3 := fun w => by kernel_rfl
 z3 := fun w => by kernel_rfl
 v3 := fun w => by kernel_rfl
 t4 := by kernel_rfl
 a4 := fun w => by kernel_rfl
 z4 := fun w => by kernel_rfl
 v4 := fun w => by kernel_rfl
 t23 := by kernel_rfl
 a23 := fun w => by kernel_rfl
 z23 := fun w => by kernel_rfl
 v23 := fun w => by kernel_rfl
 t24 := by kernel_rfl
 a24 := fun w => by kernel_rfl
 z24 := fun w => by kernel_rfl
 v24 := fun w => by kernel_rfl
 a26 := fun w => by kernel_rfl
 z26 := fun w => by kernel_rfl
 a27 := fun w => by kernel_rfl
 z27 := fun w => by kernel_rfl
 t36 := by kernel_rfl
 a36 := fun w => by kernel_rfl
 z36 := fun w => by kernel_rfl }

section
open Go.Maps Go.Sort Go.WideElems
theorem uIntD : Tryz.prog.underlying 3 = some (.int .i64) := by kernel_rfl
theorem kStr : Keyed Tryz.prog 9 := string_keyed uStr
def sameD {H : Type} : DataW H → DataW H → Bool
 | .lit (.int _ x), .lit (.int _ y) => x == y
 | _, _ => false
theorem neq_intD {H : Type} {P : Program} {e : TypeId} (he : P.underlying e = some (.int .i64)) (W : World) (x y : Value) (xd yd : DataW H) (xp yp : List MemPlace) (hx : plainElem P e x = some (xd, xp)) (hy : plainElem P e y = some (yd, yp)) :
  (binOp .neq e x y).run P W = .ok (.bool (!sameD xd yd)) W ∧ ∀ (a b : Operand), (eqGuard .neq e a b x y).run P W = .ok () W := by
 obtain ⟨a, rfl, h1, _⟩ := plainElem_int_inv he hx
 obtain ⟨b, rfl, h2, _⟩ := plainElem_int_inv he hy
 obtain rfl : xd = .lit (.int .i64 a) := by simpa using (congrArg Prod.fst h1)
 obtain rfl : yd = .lit (.int .i64 b) := by simpa using (congrArg Prod.fst h2)
 refine ⟨?_, fun _ _ => by rw [eqGuard_at_int]; rfl⟩
 simp [go_sem, sameD, binOp]
 rfl
def entL (r : LRow) : List (Lit × DataW Unit) := r.map (fun p => (.string p.1.data.toList, .lit (.int .i64 (p.2 : Nat))))
theorem rd_int {e : MapEntry} {s : ByteArray} {n : Nat} (hk : e.key = .string s) (hv : e.val = .int .i64 (n : Nat)) (hs : s.size ≤ maxLen) (hn : n < 1000000) : rd Tryz.prog 9 (plainElem (H := Unit) Tryz.prog 3) e = some (.string s.data.toList, .lit (.int .i64 (n : Nat))) := by
 unfold WideElems.rd
 rw [hk, Go.WideMaps.keyOf_string_mk uStr hs, hv, plainElem_int uIntD (by simp only [Lit.wf, Bool.and_eq_true, decide_eq_true_eq]; exact ⟨by show (-9223372036854775808 : Int) ≤ _; omega, by show _ ≤ (9223372036854775807 : Int); omega⟩)]; rfl
theorem mp_ownsI {D : Nat → Prop} {nu : Nat → Nat → Value} {o : List (Option AObj)} {w : World} {r : LRow} {x : Value} (h : RA D nu o w (.mp (mRow r)) x) (hs : ∀ p ∈ r, p.1.size ≤ maxLen ∧ p.2 < 1000000) (hn : (r.map Prod.fst).Nodup) (hl : r.length ≤ 1000000) :
  ∃ b E, x = .map (some b) ∧ w.ownsMap Tryz.prog 9 (plainElem Tryz.prog 3) b r.length (.map E) ∧ E.Perm (entL r) := by
 cases h with
 | mp _ b es cl h1 h2 h3 h4 h5 h6 h7 =>
 have hlen : es.size = r.length := by rw [h3, mRow_len]
 have hget : ∀ (i : Nat) (hi : i < es.toList.length), es[i]? = some es.toList[i] := fun i hi => by rw [← Array.getElem?_toList]; exact List.getElem?_eq_getElem hi
 have hrow : ∀ (i : Nat) (hi' : i < r.length), (mRow r)[i]? = some [.v (.string r[i].1), .v (.int .i64 (r[i].2 : Nat))] := fun i hi' => by rw [mRow, List.getElem?_map, List.getElem?_eq_getElem hi']; rfl
 have hk : ∀ (i : Nat) (hi : i < es.toList.length) (hi' : i < r.length), (es.toList[i]).key = Value.string r[i].1 := fun i hi hi' => (h7 i 0 _ _ _ (hrow i hi') rfl (hget i hi)).plain
 have hv : ∀ (i : Nat) (hi : i < es.toList.length) (hi' : i < r.length), (es.toList[i]).val = Value.int .i64 (r[i].2 : Nat) := fun i hi hi' => (h7 i 1 _ _ _ (hrow i hi') rfl (hget i hi)).plain
 have hkeys : es.toList.map (fun e => e.key) = r.map (fun p => Value.string p.1) := List.ext_getElem (by simp [hlen]) fun i k1 k2 => by
  rw [List.getElem_map, List.getElem_map]
  exact hk i (by simpa using k1) (by simpa using k2)
 have hrd : ∀ (i : Nat) (hi : i < es.toList.length) (hi' : i < r.length), rd Tryz.prog 9 (plainElem (H := Unit) Tryz.prog 3) es.toList[i] = some (.string r[i].1.data.toList, .lit (.int .i64 (r[i].2 : Nat))) := fun i hi hi' => rd_int (hk i hi hi') (hv i hi hi') (hs _ (List.getElem_mem hi')).1 (hs _ (List.getElem_mem hi')).2
 refine ⟨b, _, rfl, ⟨es, cl, h2, ⟨by unfold maxLen; omega, ⟨?_, ?_, ?_⟩, ?_⟩, by omega, rfl⟩, ?_⟩
 ·intro e he
  obtain ⟨i, hi, rfl⟩ := List.getElem_of_mem he
  exact h5 i _ (hget i hi)
 ·rw [List.Nodup, List.pairwise_iff_getElem]
  intro i j hi hj hij
  rw [List.getElem_map, List.getElem_map]
  have := h6 i j _ _ (hget i (by simpa using hi)) (hget j (by simpa using hj)) hij
  omega
 ·have e : es.toList.map (fun x => x.key) = (r.map Prod.fst).map Value.string := by rw [hkeys, List.map_map]; rfl
  rw [e, List.Nodup, List.pairwise_map]
  exact hn.imp fun hne e => hne (by cases e; rfl)
 ·intro e he
  obtain ⟨i, hi, rfl⟩ := List.getElem_of_mem he
  exact ⟨_, hrd i hi (by simpa [hlen] using hi)⟩
 ·refine (WideShapes.sorted_perm _).trans (List.Perm.of_eq ?_)
  refine List.ext_getElem (by simp [entL, hlen]) fun i k1 k2 => ?_
  have hi : i < es.toList.length := by simpa using k1
  simp only [entL, List.getElem_map]
  rw [rg_of (hrd i hi (by simpa [hlen] using hi))]
def rowEq (r s : LRow) : Bool := decide (r.length = s.length) && r.all (fun p => look s p.1 == some p.2)
theorem ent_ap {r : LRow} (hn : (r.map Prod.fst).Nodup) {E : List (Lit × DataW Unit)} (h : E.Perm (entL r)) : E.Pairwise (fun p q => p.1 ≠ q.1) := by
 refine (h.pairwise_iff (fun {a b} (q : a.1 ≠ b.1) => Ne.symm q)).2 ?_
 rw [entL, List.pairwise_map]
 rw [List.Nodup, List.pairwise_map] at hn
 refine hn.imp fun {a b} hne e => hne ?_
 injection e with e
 exact ByteArray.ext (Array.toList_inj.1 e)
theorem eq_rows {r s : LRow} (h1 : (r.map Prod.fst).Nodup) (h2 : (s.map Prod.fst).Nodup) {E1 E2 : List (Lit × DataW Unit)} (p1 : E1.Perm (entL r)) (p2 : E2.Perm (entL s)) : Lib.equalFuncD sameD (.map E1) (.map E2) = rowEq r s := by
 have hap := ent_ap h2 p2
 rw [Lib.equalFuncD, rowEq, Bool.eq_iff_iff, Bool.and_eq_true, Bool.and_eq_true, decide_eq_true_eq, decide_eq_true_eq, List.all_eq_true, List.all_eq_true]
 have e1 : Maps.size (DataW.map E1) = r.length := by show E1.length = _; rw [p1.length_eq, entL, List.length_map]
 have e2 : Maps.size (DataW.map E2) = s.length := by show E2.length = _; rw [p2.length_eq, entL, List.length_map]
 rw [e1, e2]
 have key : ∀ p ∈ r, (Lib.goodD sameD (.map E2) (.string p.1.data.toList, .lit (.int .i64 (p.2 : Nat))) = true ↔ look s p.1 = some p.2) := fun p hp => by
  have hs : Maps.has (DataW.map E2) (.string p.1.data.toList) = true ↔ p.1 ∈ s.map Prod.fst := by
   rw [Maps.has, List.any_eq_true]
   constructor
   ·rintro ⟨q, hq, hk⟩
    have hq' := (p2.mem_iff).1 hq
    rw [entL, List.mem_map] at hq'
    obtain ⟨t, ht, rfl⟩ := hq'
    have := WideAt.sameKey_eq hk
    injection this with this
    have e : t.1 = p.1 := ByteArray.ext (Array.toList_inj.1 this)
    exact e ▸ List.mem_map_of_mem ht
   ·intro hm
    obtain ⟨t, ht, e⟩ := List.mem_map.1 hm
    refine ⟨(.string t.1.data.toList, .lit (.int .i64 (t.2 : Nat))), (p2.mem_iff).2 (List.mem_map_of_mem ht), ?_⟩
    rw [e]; exact WideAt.sameKey_self trivial
  rw [Lib.goodD, Bool.and_eq_true, hs]
  constructor
  ·rintro ⟨hm, he⟩
   obtain ⟨t, ht, e⟩ := List.mem_map.1 hm
   have hat : (DataW.map E2).atKey (.string p.1.data.toList) .nil = .lit (.int .i64 (t.2 : Nat)) := WideAt.atKey_mem .nil trivial hap ((p2.mem_iff).2 (by rw [← e]; exact List.mem_map_of_mem (f := fun p => (Lit.string p.1.data.toList, DataW.lit (Lit.int .i64 (p.2 : Nat)))) ht))
   rw [hat] at he
   have : (p.2 : Int) = t.2 := by simpa [sameD] using he
   have e2 : t.2 = p.2 := by omega
   rw [← e2, ← e]
   exact look_at h2 ht
  ·intro hk
   have hm := look_mem hk
   refine ⟨List.mem_map_of_mem (f := Prod.fst) hm, ?_⟩
   have hat : (DataW.map E2).atKey (.string p.1.data.toList) .nil = .lit (.int .i64 (p.2 : Nat)) := WideAt.atKey_mem .nil trivial hap ((p2.mem_iff).2 (List.mem_map_of_mem (f := fun p => (Lit.string p.1.data.toList, DataW.lit (Lit.int .i64 (p.2 : Nat)))) hm))
   rw [hat]; simp [sameD]
 constructor
 ·rintro ⟨h, k⟩
  refine ⟨h, fun p hp => ?_⟩
  rw [beq_iff_eq]
  exact (key p hp).1 (k _ ((p1.mem_iff).2 (List.mem_map_of_mem (f := fun p => (Lit.string p.1.data.toList, DataW.lit (Lit.int .i64 (p.2 : Nat)))) hp)))
 ·rintro ⟨h, k⟩
  refine ⟨h, fun q hq => ?_⟩
  have hq' := (p1.mem_iff).1 hq
  rw [entL, List.mem_map] at hq'
  obtain ⟨p, hp, rfl⟩ := hq'
  exact (key p hp).2 (by simpa using k p hp)
theorem equal_c (r s : LRow) (hr : ∀ p ∈ r, p.1.size ≤ maxLen ∧ p.2 < 1000000) (hs : ∀ p ∈ s, p.1.size ≤ maxLen ∧ p.2 < 1000000) (nr : (r.map Prod.fst).Nodup) (ns : (s.map Prod.fst).Nodup) (lr : r.length ≤ 1000000) (ls : s.length ≤ 1000000) :
  Call1 Tryz.prog 43 [.mp (mRow r), .mp (mRow s)] (.v (.bool (rowEq r s))) := by
 refine ⟨⟨by simp only [wfL, AV.wf, wf_mRow, Bool.and_self], rfl⟩, by kernel_rfl, fun D nu w vargs hro hra => ?_⟩
 obtain ⟨x, y, rfl, hx, hy⟩ := ras_two hra
 obtain ⟨b1, E1, rfl, o1, p1⟩ := mp_ownsI hx hr nr lr
 obtain ⟨b2, E2, rfl, o2, p2⟩ := mp_ownsI hy hs ns ls
 refine (AnyEq.maps_Equal equalSLays kStr (plainElem Tryz.prog 3) (plainElem Tryz.prog 3) sameD b1 b2 r.length s.length (.map E1) (.map E2) w o1 o2 (.int .i64 0) (fun w => by kernel_rfl) (.lit (.int .i64 0)) [] (plainElem_int uIntD (by decide)) (neq_intD uIntD)).mono ?_
 rintro e w' ⟨rfl, hg⟩
 rw [eq_rows nr ns p1 p2]
 have hbw : Below w.heap.size w w' := ⟨hg.os, hg.tape, hg.output, hg.size, fun k hk => hg.block k hk (by simp)⟩
 exact ⟨_, nu, [], _, rfl, mono_below hbw, hro.below hbw, .v _, rfl, rfl⟩
end
end Go.Proofs.YtfflpdekojlnmaaGreatDoor
