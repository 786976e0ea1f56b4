/- rows of automata that are alike: maps.Equal. -/
import Derived.Test.YtfflpdekojlnmaaDoorLDfaH
import Derived.Shelf.SlMaps.Equal
set_option linter.unusedSimpArgs false
set_option linter.unusedVariables false
namespace Go.Proofs.YtfflpdekojlnmaaDoor
open Go.RowKit Go.Shelf

def equalSRen : Go.Shelf.Ren := ⟨fun | 6 => 20 | n => n, fun | 23 => 60 | 24 => 60 | 26 => 9 | 27 => 3 | 4 => 4 | 3 => 3 | 0 => 0 | 36 => 38 | n => n, fun | n => n⟩
theorem equalSLays : SlLaysEq.n6 Tryd.prog equalSRen := {
 mixed := by kernel_rfl
 f6 := ⟨Tryd.f20.name, by decide, Tryd.func20⟩
 t0 := by kernel_rfl
 a0 := fun w => by kernel_rfl
 z0 := fun w => by kernel_rfl
 v0 := fun w => by kernel_rfl
 t3 := by kernel_rfl
 a3 := fun w => by kernel_rfl
 z3 := fun w => by kernel_rfl
 v3 := fun w => by kernel_rfl
 t4 := by kernel_rfl
 a4 := fun w => by kernel_rfl
 z4 := fun w => by kernel_rfl
 v4 := fun w => by kernel_rfl
 t23 := by kernel_rfl
 a23 := fun w => by kernel_rfl
 z23 := fun w => by kernel_rfl
 v23 := fun w => by kernel_rfl
 t24 := by kernel_rfl
 a24 := fun w => by kernel_rfl
 z24 := fun w => by kernel_rfl
 v24 := fun w => by kernel_rfl
 a26 := fun w => by kernel_rfl
 z26 := fun w => by kernel_rfl
 a27 := fun w => by kernel_rfl
 z27 := fun w => by kernel_rfl
 t36 := by kernel_rfl
 a36 := fun w => by kernel_rfl
 z36 := fun w => by kernel_rfl }

section
open Go.Maps Go.Sort Go.WideElems
theorem uIntD : Tryd.prog.underlying 3 = some (.int .i64) := by kernel_rfl
theorem kStr : Keyed Tryd.prog 9 := string_keyed uStrD
def sameD {H : Type} : DataW H → DataW H → Bool
 | .lit (.int _ x), .lit (.int _ y) => x == y
 | _, _ => false
theorem neq_intD {H : Type} {P : Program} {e : TypeId} (he : P.underlying e = some (.int .i64)) (W : World) (x y : Value) (xd yd : DataW H) (xp yp : List MemPlace) (hx : plainElem P e x = some (xd, xp)) (hy : plainElem P e y = some (yd, yp)) :
  (binOp .neq e x y).run P W = .ok (.bool (!sameD xd yd)) W ∧ ∀ (a b : Operand), (eqGuard .neq e a b x y).run P W = .ok () W := by
 obtain ⟨a, rfl, h1, _⟩ := plainElem_int_inv he hx
 obtain ⟨b, rfl, h2, _⟩ := plainElem_int_inv he hy
 obtain rfl : xd = .lit (.int .i64 a) := by simpa using (congrArg Prod.fst h1)
 obtain rfl : yd = .lit (.int .i64 b) := by simpa using (congrArg Prod.fst h2)
 refine ⟨?_, fun _ _ => by rw [eqGuard_at_int]; rfl⟩
 simp [go_sem, sameD, binOp]
 rfl
def entL (r : LRow) : List (Lit × DataW Unit) := r.map (fun p => (.string p.1.data.toList, .lit (.int .i64 (p.2 : Nat))))
theorem rd_int {e : MapEntry} {s : ByteArray} {n : Nat} (hk : e.key = .string s) (hv : e.val = .int .i64 (n : Nat)) (hs : s.size ≤ maxLen) (hn : n < 1000000) : rd Tryd.prog 9 (plainElem (H := Unit) Tryd.prog 3) e = some (.string s.data.toList, .lit (.int .i64 (n : Nat))) := by
 unfold WideElems.rd
 rw [hk, Go.WideMaps.keyOf_string_mk uStrD hs, hv, plainElem_int uIntD (by simp only [Lit.wf, Bool.and_eq_true, decide_eq_true_eq]; exact ⟨by show (-9223372036854775808 : Int) ≤ _; omega, by show _ ≤ (9223372036854775807 : Int); omega⟩)]; rfl
theorem mp_ownsI {D : Nat → Prop} {nu : Nat → Nat → Value} {o : List (Option AObj)} {w : World} {r : LRow} {x : Value} (h : RA D nu o w (.mp (mRow r)) x) (hs : ∀ p ∈ r, p.1.size ≤ maxLen ∧ p.2 < 1000000) (hn : (r.map Prod.fst).Nodup) (hl : r.length ≤ 1000000) :
  ∃ b E, x = .map (some b) ∧ w.ownsMap Tryd.prog 9 (plainElem Tryd.prog 3) b r.length (.map E) ∧ E.Perm (entL r) := by
 cases h with
 | mp _ b es cl h1 h2 h3 h4 h5 h6 h7 =>
 have hlen : es.size = r.length := by rw [h3, mRow_len]
 have hget : ∀ (i : Nat) (hi : i < es.toList.length), es[i]? = some es.toList[i] := fun i hi => by rw [← Array.getElem?_toList]; exact List.getElem?_eq_getElem hi
 have hrow : ∀ (i : Nat) (hi' : i < r.length), (mRow r)[i]? = some [.v (.string r[i].1), .v (.int .i64 (r[i].2 : Nat))] := fun i hi' => by rw [mRow, List.getElem?_map, List.getElem?_eq_getElem hi']; rfl
 have hk : ∀ (i : Nat) (hi : i < es.toList.length) (hi' : i < r.length), (es.toList[i]).key = Value.string r[i].1 := fun i hi hi' => (h7 i 0 _ _ _ (hrow i hi') rfl (hget i hi)).plain
 have hv : ∀ (i : Nat) (hi : i < es.toList.length) (hi' : i < r.length), (es.toList[i]).val = Value.int .i64 (r[i].2 : Nat) := fun i hi hi' => (h7 i 1 _ _ _ (hrow i hi') rfl (hget i hi)).plain
 have hkeys : es.toList.map (fun e => e.key) = r.map (fun p => Value.string p.1) := List.ext_getElem (by simp [hlen]) fun i k1 k2 => by
  rw [List.getElem_map, List.getElem_map]
  exact hk i (by simpa using k1) (by simpa using k2)
 have hrd : ∀ (i : Nat) (hi : i < es.toList.length) (hi' : i < r.length), rd Tryd.prog 9 (plainElem (H := Unit) Tryd.prog 3) es.toList[i] = some (.string r[i].1.data.toList, .lit (.int .i64 (r[i].2 : Nat))) := fun i hi hi' => rd_int (hk i hi hi') (hv i hi hi') (hs _ (List.getElem_mem hi')).1 (hs _ (List.getElem_mem hi')).2
 refine ⟨b, _, rfl, ⟨es, cl, h2, ⟨by unfold maxLen; omega, ⟨?_, ?_, ?_⟩, ?_⟩, by omega, rfl⟩, ?_⟩
 ·intro e he
  obtain ⟨i, hi, rfl⟩ := List.getElem_of_mem he
  exact h5 i _ (hget i hi)
 ·rw [List.Nodup, List.pairwise_iff_getElem]
  intro i j hi hj hij
  rw [List.getElem_map, List.getElem_map]
  have := h6 i j _ _ (hget i (by simpa using hi)) (hget j (by simpa using hj)) hij
  omega
 ·have e : es.toList.map (fun x => x.key) = (r.map Prod.fst).map Value.string := by rw [hkeys, List.map_map]; rfl
  rw [e, List.Nodup, List.pairwise_map]
  exact hn.imp fun hne e => hne (by cases e; rfl)
 ·intro e he
  obtain ⟨i, hi, rfl⟩ := List.getElem_of_mem he
  exact ⟨_, hrd i hi (by simpa [hlen] using hi)⟩
 ·refine (WideShapes.sorted_perm _).trans (List.Perm.of_eq ?_)
  refine List.ext_getElem (by simp [entL, hlen]) fun i k1 k2 => ?_
  have hi : i < es.toList.length := by simpa using k1
  simp only [entL, List.getElem_map]
  rw [rg_of (hrd i hi (by simpa [hlen] using hi))]
def rowEq (r s : LRow) : Bool := decide (r.length = s.length) && r.all (fun p => look s p.1 == some p.2)
theorem ent_ap {r : LRow} (hn : (r.map Prod.fst).Nodup) {E : List (Lit × DataW Unit)} (h : E.Perm (entL r)) : E.Pairwise (fun p q => p.1 ≠ q.1) := by
 refine (h.pairwise_iff (fun {a b} (q : a.1 ≠ b.1) => Ne.symm q)).2 ?_
 rw [entL, List.pairwise_map]
 rw [List.Nodup, List.pairwise_map] at hn
 refine hn.imp fun {a b} hne e => hne ?_
 injection e with e
 exact ByteArray.ext (Array.toList_inj.1 e)
theorem eq_rows {r s : LRow} (h1 : (r.map Prod.fst).Nodup) (h2 : (s.map Prod.fst).Nodup) {E1 E2 : List (Lit × DataW Unit)} (p1 : E1.Perm (entL r)) (p2 : E2.Perm (entL s)) : Lib.equalFuncD sameD (.map E1) (.map E2) = rowEq r s := by
 have hap := ent_ap h2 p2
 rw [Lib.equalFuncD, rowEq, Bool.eq_iff_iff, Bool.and_eq_true, Bool.and_eq_true, decide_eq_true_eq, decide_eq_true_eq, List.all_eq_true, List.all_eq_true]
 have e1 : Maps.size (DataW.map E1) = r.length := by show E1.length = _; rw [p1.length_eq, entL, List.length_map]
 have e2 : Maps.size (DataW.map E2) = s.length := by show E2.length = _; rw [p2.length_eq, entL, List.length_map]
 rw [e1, e2]
 have key : ∀ p ∈ r, (Lib.goodD sameD (.map E2) (.string p.1.data.toList, .lit (.int .i64 (p.2 : Nat))) = true ↔ look s p.1 = some p.2) := fun p hp => by
  have hs : Maps.has (DataW.map E2) (.string p.1.data.toList) = true ↔ p.1 ∈ s.map Prod.fst := by
   rw [Maps.has, List.any_eq_true]
   constructor
   ·rintro ⟨q, hq, hk⟩
    have hq' := (p2.mem_iff).1 hq
    rw [entL, List.mem_map] at hq'
    obtain ⟨t, ht, rfl⟩ := hq'
    have := WideAt.sameKey_eq hk
    injection this with this
    have e : t.1 = p.1 := ByteArray.ext (Array.toList_inj.1 this)
    exact e ▸ List.mem_map_of_mem ht
   ·intro hm
    obtain ⟨t, ht, e⟩ := List.mem_map.1 hm
    refine ⟨(.string t.1.data.toList, .lit (.int .i64 (t.2 : Nat))), (p2.mem_iff).2 (List.mem_map_of_mem ht), ?_⟩
    rw [e]; exact WideAt.sameKey_self trivial
  rw [Lib.goodD, Bool.and_eq_true, hs]
  constructor
  ·rintro ⟨hm, he⟩
   obtain ⟨t, ht, e⟩ := List.mem_map.1 hm
   have hat : (DataW.map E2).atKey (.string p.1.data.toList) .nil = .lit (.int .i64 (t.2 : Nat)) := WideAt.atKey_mem .nil trivial hap ((p2.mem_iff).2 (by rw [← e]; exact List.mem_map_of_mem (f := fun p => (Lit.string p.1.data.toList, DataW.lit (Lit.int .i64 (p.2 : Nat)))) ht))
   rw [hat] at he
   have : (p.2 : Int) = t.2 := by simpa [sameD] using he
   have e2 : t.2 = p.2 := by omega
   rw [← e2, ← e]
   exact look_at h2 ht
  ·intro hk
   have hm := look_mem hk
   refine ⟨List.mem_map_of_mem (f := Prod.fst) hm, ?_⟩
   have hat : (DataW.map E2).atKey (.string p.1.data.toList) .nil = .lit (.int .i64 (p.2 : Nat)) := WideAt.atKey_mem .nil trivial hap ((p2.mem_iff).2 (List.mem_map_of_mem (f := fun p => (Lit.string p.1.data.toList, DataW.lit (Lit.int .i64 (p.2 : Nat)))) hm))
   rw [hat]; simp [sameD]
 constructor
 ·rintro ⟨h, k⟩
  refine ⟨h, fun p hp => ?_⟩
  rw [beq_iff_eq]
  exact (key p hp).1 (k _ ((p1.mem_iff).2 (List.mem_map_of_mem (f := fun p => (Lit.string p.1.data.toList, DataW.lit (Lit.int .i64 (p.2 : Nat)))) hp)))
 ·rintro ⟨h, k⟩
  refine ⟨h, fun q hq => ?_⟩
  have hq' := (p1.mem_iff).1 hq
  rw [entL, List.mem_map] at hq'
  obtain ⟨p, hp, rfl⟩ := hq'
  exact (key p hp).2 (by simpa using k p hp)
theorem equal_c (r s : LRow) (hr : ∀ p ∈ r, p.1.size ≤ maxLen ∧ p.2 < 1000000) (hs : ∀ p ∈ s, p.1.size ≤ maxLen ∧ p.2 < 1000000) (nr : (r.map Prod.fst).Nodup) (ns : (s.map Prod.fst).Nodup) (lr : r.length ≤ 1000000) (ls : s.length ≤ 1000000) :
  Call1 Tryd.prog 20 [.mp (mRow r), .mp (mRow s)] (.v (.bool (rowEq r s))) := by
 refine ⟨⟨by simp only [wfL, AV.wf, wf_mRow, Bool.and_self], rfl⟩, by kernel_rfl, fun D nu w vargs hro hra => ?_⟩
 obtain ⟨x, y, rfl, hx, hy⟩ := ras_two hra
 obtain ⟨b1, E1, rfl, o1, p1⟩ := mp_ownsI hx hr nr lr
 obtain ⟨b2, E2, rfl, o2, p2⟩ := mp_ownsI hy hs ns ls
 refine (AnyEq.maps_Equal equalSLays kStr (plainElem Tryd.prog 3) (plainElem Tryd.prog 3) sameD b1 b2 r.length s.length (.map E1) (.map E2) w o1 o2 (.int .i64 0) (fun w => by kernel_rfl) (.lit (.int .i64 0)) [] (plainElem_int uIntD (by decide)) (neq_intD uIntD)).mono ?_
 rintro e w' ⟨rfl, hg⟩
 rw [eq_rows nr ns p1 p2]
 have hbw : Below w.heap.size w w' := ⟨hg.os, hg.tape, hg.output, hg.size, fun k hk => hg.block k hk (by simp)⟩
 exact ⟨_, nu, [], _, rfl, mono_below hbw, hro.below hbw, .v _, rfl, rfl⟩
end
end Go.Proofs.YtfflpdekojlnmaaDoor

namespace Go.Proofs.YtfflpdekojlnmaaDoor
open Go.RowKit

structure LOk (A : ADt) : Prop extends AOk A where
 nd : A.labs.Nodup
 sz : ∀ l ∈ A.labs, l.size ≤ 20
 few : A.labs.length ≤ 24
theorem LOk.sml {A : ADt} (h : LOk A) {r : LRow} (hr : r ∈ A.rows) : (∀ p ∈ r, p.1.size ≤ maxLen ∧ p.2 < 1000000) ∧ (r.map Prod.fst).Nodup ∧ r.length ≤ 1000000 := by
 obtain ⟨h1, h2⟩ := h.row r hr
 refine ⟨fun p hp => ⟨?_, ?_⟩, h1.nodup h.nd, ?_⟩
 ·have := h.sz _ (h1.subset (List.mem_map_of_mem hp)); unfold maxLen; omega
 ·have := h2 p hp; have := h.max; omega
 ·have := h1.length_le; have := h.few; rw [List.length_map] at *; omega
def sameAt (A B : ADt) (s : Nat) : Bool := (A.ends.getD s false == B.ends.getD s false) && rowEq (A.rows.getD s []) (B.rows.getD s [])
def sameX (A B : ADt) : Bool := decide (A.rows.length = B.rows.length) && (List.range A.rows.length).all (sameAt A B)
set_option maxRecDepth 100000 in
set_option maxHeartbeats 4000000 in
theorem dsame_c {A B : ADt} (ha : LOk A) (hb : LOk B) : Call1 Tryd.prog 12 [.vp (autoV A), .vp (autoV B)] (.v (.bool (sameX A B))) := by
 have CA := dlen_c A
 have CB := dlen_c B
 have ea := ha.ends
 have am := ha.max
 have eb := hb.ends
 have CQ : ∀ s, s < A.rows.length → s < B.rows.length → Call1 Tryd.prog 20 [.mp (mRow (A.rows.getD s [])), .mp (mRow (B.rows.getD s []))] (.v (.bool (rowEq (A.rows.getD s []) (B.rows.getD s [])))) := fun s h1 h2 => by
  obtain ⟨q1, q2, q3⟩ := ha.sml (getD_mem (d := []) h1)
  obtain ⟨k1, k2, k3⟩ := hb.sml (getD_mem (d := []) h2)
  exact equal_c _ _ q1 k1 q2 k2 q3 k3
 have gE : ∀ (l : List Bool) (s : Nat), s < l.length → (l.map (fun b => [AV.v (.bool b)])).getD s [] = [.v (.bool (l.getD s false))] := fun l s h => by
  rw [List.getD_eq_getElem?_getD, List.getElem?_map, List.getElem?_eq_getElem h, List.getD_eq_getElem?_getD, List.getElem?_eq_getElem h]; rfl
 have gR : ∀ (l : List LRow) (s : Nat), s < l.length → (l.map (fun r => [AV.mp (mRow r)])).getD s [] = [.mp (mRow (l.getD s []))] := fun l s h => by
  rw [List.getD_eq_getElem?_getD, List.getElem?_map, List.getElem?_eq_getElem h, List.getD_eq_getElem?_getD, List.getElem?_eq_getElem h]; rfl
 simp only [autoV, gV, strsA, List.cons_append, List.nil_append, ea, eb] at CA CB ⊢
 generalize hrv : sameX A B = rv
 (refine Call1.enter Tryd.func12 rfl (by kernel_rfl) (by kernel_rfl) rfl (by first | rfl | (simp only [go_sem, Bool.and_self, Bool.and_true, Bool.true_and])) (by first | rfl | (simp only [go_sem, Bool.and_self, Bool.and_true, Bool.true_and])) ?_; simp only [Tryd.ntmps12, Tryd.results12, List.length_cons, List.length_nil, Nat.reduceAdd, Nat.reduceSub, List.replicate_succ, List.replicate_zero, List.cons_append, List.nil_append])
 repeat (first | (with_reducible first | refine Stp.up ?_ | refine fun (K : AK) hK => ?_ | refine wD ?_ | (refine hK _ ?_; clear hK K)) | simp only [go_sem] | with_reducible refine wA ?_ | clear hK K)
 refine ACallV.one CA ?_
 repeat (first | (with_reducible first | refine Stp.up ?_ | refine fun (K : AK) hK => ?_ | refine wD ?_ | (refine hK _ ?_; clear hK K)) | simp only [go_sem] | with_reducible refine wA ?_ | clear hK K)
 refine ACallV.one CB ?_
 repeat (first | (with_reducible first | refine Stp.up ?_ | refine fun (K : AK) hK => ?_ | refine wD ?_ | (refine hK _ ?_; clear hK K)) | simp only [go_sem] | with_reducible refine wA ?_ | clear hK K)
 refine AIf.part (fun h => ?_) (fun h => ?_)
 ·have hne : A.rows.length ≠ B.rows.length := by (try simp only [bne_iff_ne, ne_eq, bne_eq_false_iff_eq, beq_iff_eq, beq_eq_false_iff_ne, decide_eq_true_eq, decide_eq_false_iff_not, Bool.not_eq_eq_eq_not, Int.natCast_inj, Int.ofNat_lt, Int.ofNat_le] at h); omega
  have hf : rv = false := by rw [← hrv, sameX, decide_eq_false hne]; rfl
  repeat (first | (with_reducible first | refine Stp.up ?_ | refine fun (K : AK) hK => ?_ | refine wD ?_ | (refine hK _ ?_; clear hK K)) | simp only [go_sem] | with_reducible refine wA ?_ | clear hK K)
  rw [hf]
 ·have heq : A.rows.length = B.rows.length := by (try simp only [bne_iff_ne, ne_eq, bne_eq_false_iff_eq, beq_iff_eq, beq_eq_false_iff_ne, decide_eq_true_eq, decide_eq_false_iff_not, Bool.not_eq_eq_eq_not, Int.natCast_inj, Int.ofNat_lt, Int.ofNat_le] at h); omega
  have hf : (List.range A.rows.length).all (sameAt A B) = rv := by rw [← hrv, sameX, decide_eq_true heq]; rfl
  repeat (first | (with_reducible first | refine Stp.up ?_ | refine fun (K : AK) hK => ?_ | refine wD ?_ | (refine hK _ ?_; clear hK K)) | simp only [go_sem] | with_reducible refine wA ?_ | clear hK K)
  refine ACallV.one CA ?_
  repeat (first | (with_reducible first | refine Stp.up ?_ | refine fun (K : AK) hK => ?_ | refine wD ?_ | (refine hK _ ?_; clear hK K)) | simp only [go_sem] | with_reducible refine wA ?_ | clear hK K)
  refine awp_loopK (ι := Nat) 14 (fun s => [(5, .undef), (13, .v (.int .i64 s))]) (fun s => A.rows.length - s) (fun s => s ≤ A.rows.length ∧ ∀ t, t < s → sameAt A B t = true) 0 ⟨Nat.zero_le _, fun t h => absurd h (Nat.not_lt_zero t)⟩ ?_ ?_
  ·(refine wk_mk ?_ ?_ ?_ <;> simp only [frm, List.foldl_cons, List.foldl_nil, List.replicate_succ, List.replicate_zero, WkT, WkO, AV.v.injEq, Value.int.injEq, Value.bool.injEq, Value.string.injEq, AV.vec.injEq, AV.ptr.injEq, true_or, or_true, false_or, or_false, AObj.mk.injEq, forall_eq_apply_imp_iff, forall_eq, forall_eq', go_sem])
   all_goals rfl
  ·rintro s ⟨hs, hd⟩ K hK
   repeat (first | (with_reducible first | refine Stp.up ?_ | refine fun (K : AK) hK => ?_ | refine wD ?_ | (refine hK _ ?_; clear hK K)) | simp only [go_sem] | with_reducible refine wA ?_ | clear hK K)
   refine AIf.part (fun h2 => ?_) (fun h2 => ?_)
   ·have hlt : s < A.rows.length := by (try simp only [bne_iff_ne, ne_eq, bne_eq_false_iff_eq, beq_iff_eq, beq_eq_false_iff_ne, decide_eq_true_eq, decide_eq_false_iff_not, Bool.not_eq_eq_eq_not, Int.natCast_inj, Int.ofNat_lt, Int.ofNat_le] at h2); omega
    have eW := wrap_succ (k := s) (by omega)
    have g1 := gE A.ends s (by omega)
    have g2 := gE B.ends s (by omega)
    have g3 := gR A.rows s hlt
    have g4 := gR B.rows s (by omega)
    have C := CQ s hlt (by omega)
    have hsm : sameAt A B s = ((A.ends.getD s false == B.ends.getD s false) && rowEq (A.rows.getD s []) (B.rows.getD s [])) := rfl
    generalize A.ends.getD s false = e1 at *
    generalize B.ends.getD s false = e2 at *
    have hin : sameAt A B s = false → rv = false := fun hx => by
     rw [← hf, ← Bool.not_eq_true, List.all_eq_true]
     intro hall
     have := hall s (List.mem_range.2 hlt)
     rw [hx] at this; cases this
    repeat (first | (with_reducible first | refine Stp.up ?_ | refine fun (K : AK) hK => ?_ | refine wD ?_ | (refine hK _ ?_; clear hK K)) | simp only [go_sem, g1, g2, g3, g4, h2] | with_reducible refine wA ?_ | clear hK K)
    refine AIf.part (fun h3 => ?_) (fun h3 => ?_)
    ·rw [h3, Bool.true_and] at hsm
     generalize rowEq (A.rows.getD s []) (B.rows.getD s []) = e3 at *
     repeat (first | (with_reducible first | refine Stp.up ?_ | refine fun (K : AK) hK => ?_ | refine wD ?_ | (refine hK _ ?_; clear hK K)) | simp only [go_sem, g1, g2, g3, g4, h3] | with_reducible refine wA ?_ | clear hK K)
     refine ACallS.one C ?_
     repeat (first | (with_reducible first | refine Stp.up ?_ | refine fun (K : AK) hK => ?_ | refine wD ?_ | (refine hK _ ?_; clear hK K)) | simp only [go_sem, g1, g2, g3, g4, h3] | with_reducible refine wA ?_ | clear hK K)
     refine AIf.part (fun h4 => ?_) (fun h4 => ?_)
     ·rw [h4] at hsm
      repeat (first | (with_reducible first | refine Stp.up ?_ | refine fun (K : AK) hK => ?_ | refine wD ?_ | (refine hK _ ?_; clear hK K)) | simp only [go_sem, eW] | with_reducible refine wA ?_ | clear hK K)
      refine LNext.mk (s + 1) ⟨hlt, fun t ht => ?_⟩ (by omega) (by (refine wk_mk ?_ ?_ ?_ <;> simp only [frm, List.foldl_cons, List.foldl_nil, List.replicate_succ, List.replicate_zero, WkT, WkO, AV.v.injEq, Value.int.injEq, Value.bool.injEq, Value.string.injEq, AV.vec.injEq, AV.ptr.injEq, true_or, or_true, false_or, or_false, AObj.mk.injEq, forall_eq_apply_imp_iff, forall_eq, forall_eq', go_sem]))
      rcases Nat.lt_succ_iff_lt_or_eq.1 ht with q | rfl
      ·exact hd t q
      ·exact hsm
     ·rw [h4] at hsm
      repeat (first | (with_reducible first | refine Stp.up ?_ | refine fun (K : AK) hK => ?_ | refine wD ?_ | (refine hK _ ?_; clear hK K)) | simp only [go_sem] | with_reducible refine wA ?_ | clear hK K)
      rw [hin hsm]
    ·rw [h3, Bool.false_and] at hsm
     repeat (first | (with_reducible first | refine Stp.up ?_ | refine fun (K : AK) hK => ?_ | refine wD ?_ | (refine hK _ ?_; clear hK K)) | simp only [go_sem, g1, g2, g3, g4, h3] | with_reducible refine wA ?_ | clear hK K)
     rw [hin hsm]
   ·have hs' : s = A.rows.length := by (try simp only [bne_iff_ne, ne_eq, bne_eq_false_iff_eq, beq_iff_eq, beq_eq_false_iff_ne, decide_eq_true_eq, decide_eq_false_iff_not, Bool.not_eq_eq_eq_not, Int.natCast_inj, Int.ofNat_lt, Int.ofNat_le] at h2); omega
    have hf2 : rv = true := by
     rw [← hf, List.all_eq_true]
     intro t ht
     exact hd t (by rw [List.mem_range] at ht; omega)
    repeat (first | (with_reducible first | refine Stp.up ?_ | refine fun (K : AK) hK => ?_ | refine wD ?_ | (refine hK _ ?_; clear hK K)) | simp only [go_sem] | with_reducible refine wA ?_ | clear hK K)
    rw [hf2]
end Go.Proofs.YtfflpdekojlnmaaDoor

namespace Go.Proofs.YtfflpdekojlnmaaDoor
open Go.RowKit

theorem rise_only : ∀ {l m : List ByteArray}, Rise l → Rise m → (∀ s, s ∈ l ↔ s ∈ m) → l = m
 | [], [], _, _, _ => rfl
 | [], b :: m, _, _, h => absurd ((h b).2 (by simp)) (by simp)
 | a :: l, [], _, _, h => absurd ((h a).1 (by simp)) (by simp)
 | a :: l, b :: m, h1, h2, h => by
  rw [Rise, List.pairwise_cons] at h1 h2
  have irr : ∀ x : List UInt8, ¬ x < x := fun x => List.lt_irrefl _
  have hab : a = b := by
   rcases List.mem_cons.1 ((h a).1 (by simp)) with e | ha
   ·exact e
   ·rcases List.mem_cons.1 ((h b).2 (by simp)) with e | hb
    ·exact e.symm
    ·exact absurd (List.lt_trans (h1.1 b hb) (h2.1 a ha)) (irr _)
  subst hab
  refine congrArg _ (rise_only h1.2 h2.2 fun s => ⟨fun hs => ?_, fun hs => ?_⟩)
  ·rcases List.mem_cons.1 ((h s).1 (List.mem_cons_of_mem _ hs)) with e | q
   ·subst e; exact absurd (h1.1 _ hs) (irr _)
   ·exact q
  ·rcases List.mem_cons.1 ((h s).2 (List.mem_cons_of_mem _ hs)) with e | q
   ·subst e; exact absurd (h2.1 _ hs) (irr _)
   ·exact q
theorem labX_is {x : Ex} {l : List ByteArray} (h : Rise l) (hm : ∀ s, s ∈ labE x ↔ s ∈ l) : labX x = l := rise_only (labX_rise x) h fun s => labX_mem.trans (hm s)
def ta : ByteArray := ⟨#[97]⟩
def tb : ByteArray := ⟨#[98]⟩
def exL (s : ByteArray) : Ex := .mk 1 s []
def exA : Ex := .mk 4 ⟨#[]⟩ [.mk 2 ⟨#[]⟩ [exL ta, exL tb]]
def exB : Ex := .mk 3 ⟨#[]⟩ [exL ta, .mk 2 ⟨#[]⟩ [exL ta, .mk 4 ⟨#[]⟩ [exL ta]]]
def exC : Ex := .mk 5 ⟨#[]⟩ [exL ta]
def auA : ADt := ⟨[[(ta, 1)], [(tb, 0)]], [true, false], [ta, tb]⟩
def auB : ADt := ⟨[[(ta, 1)], [(ta, 1)]], [false, true], [ta]⟩
theorem lab_A : labX exA = [ta, tb] := labX_is (by simp [Rise, ta, tb]; decide) (fun s => by rw [show labE exA = [ta, tb] by kernel_rfl])
theorem lab_B : labX exB = [ta] := labX_is (by simp [Rise]) (fun s => by rw [show labE exB = [ta, ta, ta] by kernel_rfl]; simp)
theorem lab_C : labX exC = [ta] := labX_is (by simp [Rise]) (fun s => by rw [show labE exC = [ta] by kernel_rfl])
theorem au_A : autoM exA (labX exA) = .inl auA := by rw [lab_A]; kernel_rfl
theorem au_B : autoM exB (labX exB) = .inl auB := by rw [lab_B]; kernel_rfl
theorem au_C : autoM exC (labX exC) = .inl auB := by rw [lab_C]; kernel_rfl
end Go.Proofs.YtfflpdekojlnmaaDoor
