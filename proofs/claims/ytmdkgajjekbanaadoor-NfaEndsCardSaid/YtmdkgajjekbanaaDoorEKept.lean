/- kinescopelaw08: NfaTells: what nfa tells is what the reference tells; First as an own row. -/
import Derived.Test.YtmdkgajjekbanaaDoorELawNfc
import Derived.Test.YtmdkgajjekbanaaDoorELentI
import Derived.StillTailTactics
import Derived.Test.YtmdkgajjekbanaaDoorEBase2
import Derived.Test.YtmdkgajjekbanaaDoorELens
import Derived.Test.YtmdkgajjekbanaaDoorEOnceC
import Derived.Test.YtmdkgajjekbanaaDoorEBehP
set_option linter.unusedSimpArgs false
set_option linter.unusedVariables false
namespace Go.Proofs.YtmdkgajjekbanaaDoor
open Go.RowKit

theorem tell_lab {x : Ex} (hr : exRight x = true) (p : Int) : labAt (newM x) p = rlab (labE x) p := by
 have L := newM_law hr
 rw [labAt, rlab, L.labs]
 by_cases h : 1 ≤ p ∧ p ≤ (labE x).length
 ·rw [if_pos h, if_pos h, show (p - 1).toNat = p.toNat - 1 by omega]
 ·rw [if_neg h, if_neg h]
theorem tell_fol {x : Ex} (hr : exRight x = true) (p : Int) : folAt (newM x) p = rfol x p := by
 have L := newM_law hr
 rw [folAt, rfol, L.labs]
 by_cases h : 1 ≤ p ∧ p ≤ (labE x).length
 ·rw [if_pos h, if_pos h]
  refine rise_ext (bitsM_rise _) (setN_rise _ _) fun q => ?_
  rw [bitsM_mem, setN_mem]
  constructor
  ·intro h1
   have hq := L.ok.fol _ _ h1
   rw [L.labs] at hq
   refine ⟨hq.1, hq.2, ?_⟩
   rw [folB_iff, show q - 1 + 1 = q by omega, show p.toNat - 1 + 1 = p.toNat by omega]
   exact (L.fol _ _ (by omega)).1 h1
  ·rintro ⟨h1, h2, h3⟩
   rw [folB_iff, show q - 1 + 1 = q by omega, show p.toNat - 1 + 1 = p.toNat by omega] at h3
   exact (L.fol _ _ (by omega)).2 h3
 ·rw [if_neg h, if_neg h]
theorem tell_fst {x : Ex} (hr : exRight x = true) : bitsM ((newM x).fs.getD 0 0#32) = setN (labE x).length (fstB x 0) := by
 have L := newM_law hr
 refine rise_ext (bitsM_rise _) (setN_rise _ _) fun q => ?_
 rw [bitsM_mem, setN_mem]
 constructor
 ·intro h1
  have hq := L.ok.fol _ _ h1
  rw [L.labs] at hq
  refine ⟨hq.1, hq.2, ?_⟩
  rw [fstB_iff, show q - 1 + 1 = q by omega]
  exact (L.fst _).1 h1
 ·rintro ⟨h1, h2, h3⟩
  rw [fstB_iff, show q - 1 + 1 = q by omega] at h3
  exact (L.fst _).2 h3
theorem tell_lst {x : Ex} (hr : exRight x = true) : bitsM (newM x).la = setN (labE x).length (lstB x 0) := by
 have L := newM_law hr
 refine rise_ext (bitsM_rise _) (setN_rise _ _) fun q => ?_
 rw [bitsM_mem, setN_mem]
 constructor
 ·intro h1
  have hq := L.ok.la _ h1
  rw [L.labs] at hq
  refine ⟨hq.1, hq.2, ?_⟩
  rw [lstB_iff, show q - 1 + 1 = q by omega]
  exact (L.lst _).1 h1
 ·rintro ⟨h1, h2, h3⟩
  rw [lstB_iff, show q - 1 + 1 = q by omega] at h3
  exact (L.lst _).2 h3
theorem tell_em {x : Ex} (hr : exRight x = true) : (newM x).em = emptyB x := by
 rw [(newM_law hr).em, emptyB, hr, Bool.true_and]
set_option maxRecDepth 100000 in
theorem list_e (m : BitVec 32) : CallE Tryd.prog 50 [encM m] [] (.vec 2 (bitsM m).length) [none, none, some ⟨3, 1, true, encN (bitsM m)⟩] := by
 have A := setAll_e m
 have hb := bitsM_len m
 simp only [boxM, encM] at *
 (refine CallE.enter Tryd.func50 rfl (by kernel_rfl) (by kernel_rfl) rfl ?_; simp only [Tryd.ntmps50, Tryd.results50, List.length_cons, List.length_nil, Nat.reduceAdd, Nat.reduceSub, List.replicate_succ, List.replicate_zero, List.cons_append, List.nil_append])
 repeat (first | (with_reducible first | refine Stp.up ?_ | refine fun (K : AK) hK => ?_ | (refine hK _ ?_; clear hK K)) | simp only [go_sem] | with_reducible refine wA ?_ | clear hK K)
 refine ACallV.fr [] A (by simp) ?_ ?_ ?_ ?_ ?_
 ·rfl
 ·rfl
 ·rfl
 ·intro k ob hk; simp at hk
 repeat (first | (with_reducible first | refine Stp.up ?_ | refine fun (K : AK) hK => ?_ | (refine hK _ ?_; clear hK K)) | simp only [go_sem] | with_reducible refine wA ?_ | clear hK K)
 refine asem_turn (turn_cell (k := 0) (i := 0) (j := 0) 3 1 (by decide) rfl (by decide) rfl rfl) (by kernel_rfl) ?_
 simp only [List.length_cons, List.length_nil, Nat.reduceAdd, List.cons_append, List.nil_append, List.set_cons_zero]
 refine awp_rangeSet m 1 rfl 3 (fun k => [some ⟨37, 1, false, [[.vec 2 k]]⟩, none, some ⟨3, 1, true, encN ((bitsM m).take k)⟩]) (fun _ => True) trivial ?_ rfl ?_ (by kernel_rfl) (by kernel_rfl) rfl ?_ ?_
 ·rfl
 ·(refine wk_mk ?_ ?_ ?_ <;> simp only [frm, List.foldl_cons, List.foldl_nil, List.replicate_succ, List.replicate_zero, WkT, WkO, AV.v.injEq, Value.int.injEq, Value.bool.injEq, Value.string.injEq, AV.vec.injEq, AV.ptr.injEq, true_or, or_true, false_or, or_false, AObj.mk.injEq, forall_eq_apply_imp_iff, forall_eq, forall_eq', go_sem])
  rfl
 ·intro k hk _
  have eS : encN ((bitsM m).take (k + 1)) = encN ((bitsM m).take k) ++ [[.v (.int .i64 ((bitsM m)[k] : Nat))]] := by rw [List.take_succ_eq_append_getElem hk, encN, List.map_append]; rfl
  have eL : (encN ((bitsM m).take k)).length = k := by simp [encN]; omega
  repeat (first | (with_reducible first | refine Stp.up ?_ | refine fun (K : AK) hK => ?_ | (refine hK _ ?_; clear hK K)) | simp only [go_sem] | with_reducible refine wA ?_ | clear hK K)
  rw [eS]
  (refine wk_mk ?_ ?_ ?_ <;> simp only [frm, List.foldl_cons, List.foldl_nil, List.replicate_succ, List.replicate_zero, WkT, WkO, AV.v.injEq, Value.int.injEq, Value.bool.injEq, Value.string.injEq, AV.vec.injEq, AV.ptr.injEq, true_or, or_true, false_or, or_false, AObj.mk.injEq, forall_eq_apply_imp_iff, forall_eq, forall_eq', go_sem])
 ·intro _
  have e1 : (bitsM m).take (bitsM m).length = bitsM m := List.take_length
  repeat (first | (with_reducible first | refine Stp.up ?_ | refine fun (K : AK) hK => ?_ | (refine hK _ ?_; clear hK K)) | simp only [go_sem, e1] | with_reducible refine wA ?_ | clear hK K)
  (refine ⟨?_, ?_, ?_⟩ <;> simp only [WkT, WkO, AV.v.injEq, Value.int.injEq, Value.bool.injEq, Value.string.injEq, AV.vec.injEq, AV.ptr.injEq, true_or, or_true, false_or, or_false, AObj.mk.injEq, forall_eq_apply_imp_iff, forall_eq, forall_eq', go_sem])
set_option maxRecDepth 100000 in
set_option maxHeartbeats 4000000 in
theorem nFirst_e (s : NSt) (hf : s.fs.length = 25) : CallE Tryd.prog 14 [.vp (nfaV s)] [] (.vec 2 (bitsM (s.fs.getD 0 0#32)).length) [none, none, some ⟨3, 1, true, encN (bitsM (s.fs.getD 0 0#32))⟩] := by
 have C := list_e (s.fs.getD 0 0#32)
 obtain ⟨r, eD⟩ := fs_drop (l := .slc 1 (s.labs.map encS) s.labs.length) (X := [.v (.int .u32 s.la.toNat), .v (.bool s.em)]) (fs := s.fs) (p := 0) (by omega)
 simp only [Nat.zero_mul, Nat.add_zero, List.drop_succ_cons, List.drop_zero] at eD
 simp only [nfaV, encM] at *
 (refine CallE.enter Tryd.func14 rfl (by kernel_rfl) (by kernel_rfl) rfl ?_; simp only [Tryd.ntmps14, Tryd.results14, List.length_cons, List.length_nil, Nat.reduceAdd, Nat.reduceSub, List.replicate_succ, List.replicate_zero, List.cons_append, List.nil_append])
 repeat (first | (with_reducible first | refine Stp.up ?_ | refine fun (K : AK) hK => ?_ | (refine hK _ ?_; clear hK K)) | simp only [go_sem, eD] | with_reducible refine wA ?_ | clear hK K)
 refine ACallV.fr [] C (by simp) rfl rfl rfl (fun k ob hk => by simp at hk) ?_
 have hR : ∀ f, renR f (encN (bitsM (s.fs.getD 0 0#32))) = encN (bitsM (s.fs.getD 0 0#32)) := fun f => renR_wf0 f _ (wfR_map _ (fun _ => rfl) _)
 simp only [AV.ren, sig, putO, List.map_cons, List.map_nil, Option.map_none, Option.map_some, AObj.ren, hR, List.length_nil, List.nil_append, Nat.not_lt_zero, if_false, Nat.sub_zero, Nat.zero_add]
 repeat (first | (with_reducible first | refine Stp.up ?_ | refine fun (K : AK) hK => ?_ | (refine hK _ ?_; clear hK K)) | simp only [go_sem] | with_reducible refine wA ?_ | clear hK K)
 (refine ⟨?_, ?_, ?_⟩ <;> simp only [WkT, WkO, AV.v.injEq, Value.int.injEq, Value.bool.injEq, Value.string.injEq, AV.vec.injEq, AV.ptr.injEq, true_or, or_true, false_or, or_false, AObj.mk.injEq, forall_eq_apply_imp_iff, forall_eq, forall_eq', go_sem])
end Go.Proofs.YtmdkgajjekbanaaDoor

namespace Go.Proofs.YtmdkgajjekbanaaDoor
open Go.RowKit

structure Besides (b : Nat) (w w' : World) : Prop where
 os : w'.os = w.os
 tape : w'.tape = w.tape
 output : w'.output = w.output
 size : w.heap.size ≤ w'.heap.size
 same : ∀ k, k < w.heap.size → k ≠ b → w'.heap[k]? = w.heap[k]?
theorem Besides.refl (b : Nat) (w : World) : Besides b w w := ⟨rfl, rfl, rfl, Nat.le_refl _, fun _ _ _ => rfl⟩

theorem setCell_at {w : World} {b k : Nat} {v : Value} {cur : Array Value} {T : TypeId} (h : w.heap[b]? = some (.cells cur T (0, 0))) : (w.setCell ⟨b, k, none⟩ v).heap[b]? = some (.cells (cur.setIfInBounds k v) T (0, 0)) := by
 simp [World.setCell, Array.getElem?_modify, h]
theorem Besides.set {w0 w : World} {b k : Nat} {v : Value} (h : Besides b w0 w) : Besides b w0 (w.setCell ⟨b, k, none⟩ v) :=
 ⟨h.os, h.tape, h.output, by simpa [World.setCell] using h.size, fun j h1 h2 => by
  have : (w.setCell ⟨b, k, none⟩ v).heap[j]? = w.heap[j]? := by
   simp only [World.setCell, Array.getElem?_modify]
   rw [if_neg (fun e => h2 e.symm)]
  exact this.trans (h.same j h1 h2)⟩
set_option maxRecDepth 100000 in
theorem mark_w (i : Nat) (hi : i ≤ 2000000) (w : World) : Calls Tryd.prog 51 #[.int .i64 2, .int .i64 i] w (fun e w' => (∃ j : Int, e = .returned (.int .i64 j)) ∧ w' = w) := by
 go_enter Tryd.func51, Tryd.ntmps51
 go_wp2_with fail
 go_ret
 exact ⟨⟨_, rfl⟩, rfl⟩
set_option maxRecDepth 100000 in
set_option maxHeartbeats 2000000 in
theorem overInts_w (w : World) {b n cap : Nat} {cur : Array Value} {T : TypeId} (hblk : w.heap[b]? = some (.cells cur T (0, 0))) (hn : n ≤ cap) (hc : cap ≤ maxLen) (hs : cur.size = cap) (hn6 : n ≤ 1000000) :
  Calls Tryd.prog 15 #[.slice (some ⟨b, 0, none⟩) n cap] w (fun e w' => e = .returned (.tuple #[]) ∧ Besides b w w') := by
 unfold maxLen at hc
 go_enter Tryd.func15, Tryd.ntmps15
 have HM := Lib.hid (fun (k : Nat) (hk : k ≤ 2000000) (W : World) => mark_w k hk W)
 by_cases hle : cap ≤ n + 12
 ·go_wp2_with fail
  go_loopw [3] (fun i wr => ∃ (k : Nat) (cur' : Array Value), k ≤ cap ∧ i = .int .i64 k ∧ wr.heap[b]? = some (.cells cur' T (0, 0)) ∧ cur'.size = cap ∧ Besides b w wr) (fun i _ => cap - (intOf i).toNat)
  case atStart => exact ⟨0, cur, Nat.zero_le _, rfl, hblk, hs, .refl _ _⟩
  case round =>
   obtain ⟨k, cur', hk, rfl, hb', hs', hB⟩ := hrel
   have HB := Lib.hid hB; clear hB
   by_cases hlt : k < cap
   ·have hcell : wr.cell? ⟨b, k, none⟩ = some (cur'[k]'(by omega)) := by simp [World.cell?, hb', Array.getElem?_eq_getElem (show k < cur'.size by omega)]
    have hfro : wr.frozen? ⟨b, k, none⟩ = false := by simp [World.frozen?, hb']
    go_wp2_with fail
    refine (HM.out k (by omega) wr).mono ?_
    rintro e w' ⟨⟨j, rfl⟩, rfl⟩
    go_wp2_with fail
    go_roundw
    case rel => exact ⟨k + 1, _, by omega, by go_num, setCell_at hb', by simpa using hs', HB.out.set⟩
    case measure => simp [intOf]; omega
   ·go_wp2_with fail
    exact bodyPost_end (results_none rfl _ _ _) rfl ⟨rfl, HB.out⟩
 ·go_wp2_with fail
  go_loopw [3] (fun i wr => ∃ (k : Nat) (cur' : Array Value), k ≤ n + 12 ∧ i = .int .i64 k ∧ wr.heap[b]? = some (.cells cur' T (0, 0)) ∧ cur'.size = cap ∧ Besides b w wr) (fun i _ => n + 12 - (intOf i).toNat)
  case atStart => exact ⟨0, cur, Nat.zero_le _, rfl, hblk, hs, .refl _ _⟩
  case round =>
   obtain ⟨k, cur', hk, rfl, hb', hs', hB⟩ := hrel
   have HB := Lib.hid hB; clear hB
   by_cases hlt : k < n + 12
   ·have hcell : wr.cell? ⟨b, k, none⟩ = some (cur'[k]'(by omega)) := by simp [World.cell?, hb', Array.getElem?_eq_getElem (show k < cur'.size by omega)]
    have hfro : wr.frozen? ⟨b, k, none⟩ = false := by simp [World.frozen?, hb']
    go_wp2_with fail
    refine (HM.out k (by omega) wr).mono ?_
    rintro e w' ⟨⟨j, rfl⟩, rfl⟩
    go_wp2_with fail
    go_roundw
    case rel => exact ⟨k + 1, _, by omega, by go_num, setCell_at hb', by simpa using hs', HB.out.set⟩
    case measure => simp [intOf]; omega
   ·go_wp2_with fail
    exact bodyPost_end (results_none rfl _ _ _) rfl ⟨rfl, HB.out⟩
theorem overInts_n (w : World) : Calls Tryd.prog 15 #[.slice none 0 0] w (fun e w' => e = .returned (.tuple #[]) ∧ w' = w) := by
 go_enter Tryd.func15, Tryd.ntmps15
 go_wp2_with fail
 go_loop [3] (fun i => i = .int .i64 0) (fun i => 0)
 case atStart => rfl
 case round =>
  subst hrel
  go_wp2_with fail
  exact bodyPost_end (results_none rfl _ _ _) rfl ⟨rfl, rfl⟩
theorem besides_kill {D : Nat → Prop} {nu : Nat → Nat → Value} {o : List (Option AObj)} {w w' : World} {id b : Nat} {ob : AObj} (h : RO D nu o w) (ho : o[id]? = some (some ob)) (hb : blkM (nu id ob.hl) = some b) (hB : Besides b w w') :
  Mono nu o w nu (o.set id none) w' ∧ RO D nu (o.set id none) w' := by
 have hk := kill_mono (nu := nu) (o := o) (w := w) id
 have hm : Mono nu o w nu (o.set id none) w' := ⟨hB.os, hB.tape, hB.output, hB.size, hk.hdr, fun k hlt hno => ⟨hB.same k hlt (fun e => hno ⟨id, ob, ho, by rw [e]; exact hb⟩), (hk.keep k hlt hno).2⟩⟩
 refine ⟨hm, ?_, fun k hle => h.up k (Nat.le_trans hB.size hle), fun i1 i2 b1 b2 b' k1 k2 => h.sep i1 i2 b1 b2 b' (kill_get k1).1 (kill_get k2).1, h.gl.mono hm (fun _ _ h => h)⟩
 intro id' ob' k1
 obtain ⟨k2, k3⟩ := kill_get k1
 have hne : ∀ g, blkM (nu id' ob'.hl) = some g → g < w.heap.size → w'.heap[g]? = w.heap[g]? := fun g hg hlt => hB.same g hlt (fun e => h.sep id id' ob ob' b ho k2 k3 hb (by rw [← e]; exact hg))
 rcases h.obj id' ob' k2 with e | ⟨g, cur, hr⟩ | ⟨g, es, cl, hmp⟩
 ·exact .inl e
 ·exact .inr (.inl ⟨g, cur, (hne g hr.blkEq (Array.getElem?_eq_some_iff.1 hr.blk).1).trans hr.blk, hr.dom, hr.box, hr.vec, hr.z, hr.row, fun i j row c x q1 q2 q3 => (hr.cell i j row c x q1 q2 q3).mono hm (fun _ _ h => h), hr.one⟩)
 ·exact .inr (.inr ⟨g, es, cl, hmp.tr (hne g hmp.blkEq (Array.getElem?_eq_some_iff.1 hmp.blk).1) (fun h => h) rfl (fun i j row c x _ _ hr => hr.mono hm (fun _ _ h => h))⟩)
theorem overInts_e (T : TypeId) (rows : List (List AV)) {n : Nat} (hn : n ≤ 1000000) (hl : rows.length = n) : CallE Tryd.prog 15 [.vec 0 n] [some ⟨T, 1, true, rows⟩] (.tup []) [none] := by
 refine ⟨by kernel_rfl, fun D nu w vargs hro hra => ?_⟩
 obtain ⟨hlen, hat⟩ := hra
 obtain ⟨x, rfl⟩ : ∃ x, vargs = #[x] := by
  obtain ⟨l⟩ := vargs
  match l, hlen with
  | [x], _ => exact ⟨x, rfl⟩
 have hx : x = nu 0 n := by
  have := hat 0 _ x rfl rfl
  cases this with
  | vec => rfl
 subst hx
 have hh : AObj.hl ⟨T, 1, true, rows⟩ = n := by simp [AObj.hl, hl]
 rcases hro.obj 0 _ rfl with ⟨_, e2, e3⟩ | ⟨g, cur, hb⟩ | ⟨g, es, cl, hmp⟩
 ·simp only at e2
  obtain rfl : n = 0 := by rw [← hl, e2]; rfl
  rw [e3]
  refine (overInts_n w).mono ?_
  rintro e w' ⟨rfl, rfl⟩
  exact ⟨_, nu, [none], .tup [], rfl, kill_mono (o := [some _]) 0, kill_RO hro 0, .tup _ _ rfl (fun i c x h => by simp at h), rfl, rfl⟩
 ·obtain ⟨cap, q1, q2, q3, q4⟩ := hb.vec rfl
  simp only [hl, Nat.mul_one] at q1 q2 q4
  rw [q1]
  refine (overInts_w w hb.blk q2 q3 q4 hn).mono ?_
  rintro e w' ⟨rfl, hB⟩
  obtain ⟨m1, m2⟩ := besides_kill hro rfl hb.blkEq hB
  exact ⟨_, nu, [none], .tup [], rfl, m1, m2, .tup _ _ rfl (fun i c x h => by simp at h), rfl, rfl⟩
 ·have := hmp.isV; cases this
end Go.Proofs.YtmdkgajjekbanaaDoor

namespace Go.Proofs.YtmdkgajjekbanaaDoor
open Go.RowKit

theorem sameExpr_c (x y : Ex) : Call1 Tryd.prog 48 [.agg (encE x), .agg (encE y)] (.v (.bool (exSame x y))) :=
 .of_ret (by kernel_rfl) (by simp only [wfL, AV.wf, wf_encE1, Bool.and_self]) (fun D nu w vargs h => by
  obtain ⟨a, b, rfl, ha, hb⟩ := ras_two h
  obtain ⟨ca, rfl, ka⟩ := ra_agg ha
  obtain ⟨cb, rfl, kb⟩ := ra_agg hb
  exact sameExpr_any x y ca cb w (rls_ex x ca ka) (rls_ex y cb kb))

theorem exSame_refl (x : Ex) : exSame x x = true := (exSame_eq x x).2 rfl
theorem getD_lt {α : Type} (f : α → List AV) (l : List α) (m : List (List AV)) (i : Nat) (h : i < l.length) : (l.map f ++ m).getD i [] = f l[i] := by
 rw [List.getD_eq_getElem?_getD, List.getElem?_append_left (by simpa using h)]; simp [h]
theorem mksN_get (f : Nat → List AV) : ∀ n i, i < n → (mksN f n)[i]? = some (f i)
 | 0, i, h => absurd h (by omega)
 | n + 1, i, h => by
  rw [mksN]
  rcases Nat.lt_or_ge i n with q | q
  ·rw [List.getElem?_append_left (by rw [mksN_len]; exact q)]; exact mksN_get f n i q
  ·obtain rfl : i = n := by omega
   rw [List.getElem?_append_right (by rw [mksN_len]; exact Nat.le_refl _), mksN_len]; simp
theorem getD_ge {α : Type} (f : α → List AV) (l : List α) (m : Nat → List AV) (j : Nat) (h : j < 12) : (l.map f ++ marksOf m).getD (l.length + j) [] = m j := by
 rw [List.getD_eq_getElem?_getD, List.getElem?_append_right (by simp), List.length_map, Nat.add_sub_cancel_left, marksOf, mksN_get m 12 j h]; rfl
def exM (i : Nat) : Ex := .mk ((8000024 + i : Nat) : Int) ⟨#[]⟩ []
set_option maxRecDepth 100000 in
set_option maxHeartbeats 4000000 in
theorem keptExprs_of (l : List Ex) (hl : l.length ≤ 1000000) (H : ∀ x, x ∈ l → Call1 Tryd.prog 13 [.agg (lentE x), .agg (encE x)] (.v (.bool true))) :
  Call1 Tryd.prog 49 [.slc 3 (l.map lentE ++ marksOf markE) l.length, .slc 3 (l.map encE) l.length] (.v (.bool true)) := by
 have e1 : IntKind.i64.wrap ((l.length : Int) + 12) = ((l.length + 12 : Nat) : Int) := wrap12 hl
 (refine Call1.enter Tryd.func49 rfl (by kernel_rfl) (by kernel_rfl) rfl (by first | rfl | (simp only [go_sem, Bool.and_self, Bool.and_true, Bool.true_and])) (by first | rfl | (simp only [go_sem, Bool.and_self, Bool.and_true, Bool.true_and])) ?_; simp only [Tryd.ntmps49, Tryd.results49, List.length_cons, List.length_nil, Nat.reduceAdd, Nat.reduceSub, List.replicate_succ, List.replicate_zero, List.cons_append, List.nil_append])
 repeat (first | (with_reducible first | refine Stp.up ?_ | refine fun (K : AK) hK => ?_ | refine wD ?_ | (refine hK _ ?_; clear hK K)) | simp only [go_sem, e1] | with_reducible refine wA ?_ | clear hK K)
 refine awp_loopF (ι := Nat) (fun i => [(0, .slc 3 (l.map lentE ++ marksOf markE) l.length), (1, .slc 3 (l.map encE) l.length), (4, .v (.bool false)), (5, .slc 3 (l.map lentE ++ marksOf markE) (l.length + 12)), (6, .v (.int .i64 i))]) (fun _ => []) (fun i => l.length + 12 - i) (fun i => i ≤ l.length + 12) 0 (by omega) ?_ ?_
 ·(refine wk_mk ?_ ?_ ?_ <;> simp only [frm, List.foldl_cons, List.foldl_nil, List.replicate_succ, List.replicate_zero, WkT, WkO, AV.v.injEq, Value.int.injEq, Value.bool.injEq, Value.string.injEq, AV.vec.injEq, AV.ptr.injEq, true_or, or_true, false_or, or_false, AObj.mk.injEq, forall_eq_apply_imp_iff, forall_eq, forall_eq', go_sem])
  rfl
 ·intro i hi K hK
  simp only [frm, List.foldl_cons, List.foldl_nil, List.replicate_succ, List.replicate_zero, go_sem]
  repeat (first | (with_reducible first | refine Stp.up ?_ | refine fun (K : AK) hK => ?_ | refine wD ?_ | (refine hK _ ?_; clear hK K)) | simp only [go_sem] | with_reducible refine wA ?_ | clear hK K)
  refine AIf.part (fun h => ?_) (fun h => ?_)
  ·have hlt : i < l.length + 12 := by (try simp only [bne_iff_ne, ne_eq, bne_eq_false_iff_eq, beq_iff_eq, beq_eq_false_iff_ne, decide_eq_true_eq, decide_eq_false_iff_not, Bool.not_eq_eq_eq_not, Int.natCast_inj, Int.ofNat_lt, Int.ofNat_le] at h); omega
   have eW := wrap_succ (k := i) (by omega)
   rcases Nat.lt_or_ge i l.length with q | q
   ·have g1 : decide ((i : Int) < (l.length : Int)) = true := by simpa using q
    have g2 : decide ((l.length : Int) ≤ (i : Int)) = false := by simpa using q
    have eG := getD_lt lentE l (marksOf markE) i q
    have eH := getD_map encE l i [] q
    have HX := H l[i] (List.getElem_mem q)
    simp only [encE_eq, lentE_eq] at HX eG eH
    repeat (first | (with_reducible first | refine Stp.up ?_ | refine fun (K : AK) hK => ?_ | refine wD ?_ | (refine hK _ ?_; clear hK K)) | simp only [go_sem, g1, g2, eG, eH] | with_reducible refine wA ?_ | clear hK K)
    refine ACallS.one HX ?_
    repeat (first | (with_reducible first | refine Stp.up ?_ | refine fun (K : AK) hK => ?_ | refine wD ?_ | (refine hK _ ?_; clear hK K)) | simp only [go_sem, g1, g2, eW, Go.undef] | with_reducible refine wA ?_ | clear hK K)
    exact LNext.mk (i + 1) (by omega) (by omega) (by (refine wk_mk ?_ ?_ ?_ <;> simp only [frm, List.foldl_cons, List.foldl_nil, List.replicate_succ, List.replicate_zero, WkT, WkO, AV.v.injEq, Value.int.injEq, Value.bool.injEq, Value.string.injEq, AV.vec.injEq, AV.ptr.injEq, true_or, or_true, false_or, or_false, AObj.mk.injEq, forall_eq_apply_imp_iff, forall_eq, forall_eq', go_sem]))
   ·obtain ⟨j, hj⟩ : ∃ j, i = l.length + j := ⟨i - l.length, by omega⟩
    have g1 : decide ((i : Int) < (l.length : Int)) = false := decide_eq_false (by omega)
    have g2 : decide ((l.length : Int) ≤ (i : Int)) = true := decide_eq_true (by omega)
    have eS : IntKind.i64.wrap ((i : Int) - (l.length : Int)) = (j : Int) := by rw [wrap_id (by omega) (by omega)]; omega
    have eG : (l.map lentE ++ marksOf markE).getD i [] = markE j := by rw [hj]; exact getD_ge lentE l markE j (by omega)
    have M := markExpr_c j (by omega)
    have S := (sameExpr_c (exM j) (exM j)).le (args' := [.agg (markE j), .agg (markE j)]) rfl (.cons (le_markE j).agg (.cons (le_markE j).agg .nil))
    rw [exSame_refl] at S
    simp only [markE, mk1] at M S eG
    repeat (first | (with_reducible first | refine Stp.up ?_ | refine fun (K : AK) hK => ?_ | refine wD ?_ | (refine hK _ ?_; clear hK K)) | simp only [go_sem, g1, g2, eG, eS, eW, Go.undef] | with_reducible refine wA ?_ | clear hK K)
    refine ACallS.one M ?_
    repeat (first | (with_reducible first | refine Stp.up ?_ | refine fun (K : AK) hK => ?_ | refine wD ?_ | (refine hK _ ?_; clear hK K)) | simp only [go_sem, g1, g2, eG, eS, eW, Go.undef] | with_reducible refine wA ?_ | clear hK K)
    refine ACallS.one S ?_
    repeat (first | (with_reducible first | refine Stp.up ?_ | refine fun (K : AK) hK => ?_ | refine wD ?_ | (refine hK _ ?_; clear hK K)) | simp only [go_sem, g1, g2, eG, eS, eW, Go.undef] | with_reducible refine wA ?_ | clear hK K)
    exact LNext.mk (i + 1) (by omega) (by omega) (by (refine wk_mk ?_ ?_ ?_ <;> simp only [frm, List.foldl_cons, List.foldl_nil, List.replicate_succ, List.replicate_zero, WkT, WkO, AV.v.injEq, Value.int.injEq, Value.bool.injEq, Value.string.injEq, AV.vec.injEq, AV.ptr.injEq, true_or, or_true, false_or, or_false, AObj.mk.injEq, forall_eq_apply_imp_iff, forall_eq, forall_eq', go_sem]))
  ·repeat (first | (with_reducible first | refine Stp.up ?_ | refine fun (K : AK) hK => ?_ | refine wD ?_ | (refine hK _ ?_; clear hK K)) | simp only [go_sem] | with_reducible refine wA ?_ | clear hK K)
set_option maxRecDepth 100000 in
set_option maxHeartbeats 4000000 in
theorem keptExpr_c (x : Ex) (hx : x.lens 1000000) : Call1 Tryd.prog 13 [.agg (lentE x), .agg (encE x)] (.v (.bool true)) := by
 induction x using Ex.ind with
 | h k s l ih =>
  have hk : ∀ y, y ∈ l → y.lens 1000000 := fun y hy z hz => hx z (by rw [exParts, exsParts_eq]; exact List.mem_cons_of_mem _ (List.mem_flatMap.2 ⟨y, hy, hz⟩))
  have C := keptExprs_of l (hx (.mk k s l) (by rw [exParts]; exact List.mem_cons_self)) (fun y hy => ih y hy (hk y hy))
  have S := (sameExpr_c (.mk k s l) (.mk k s l)).le (args' := [.agg (lentE (.mk k s l)), .agg (encE (.mk k s l))]) (by simp only [wfL, AV.wf, wf_lentE1, wf_encE1, Bool.and_self]) (.cons (le_lentE _).agg (.cons (.refl _) .nil))
  rw [exSame_refl] at S
  rw [encE_eq, lentE_eq] at S ⊢
  simp only [Ex.kind, Ex.label, Ex.kids] at S ⊢
  (refine Call1.enter Tryd.func13 rfl (by kernel_rfl) (by kernel_rfl) rfl (by first | rfl | (simp only [go_sem, Bool.and_self, Bool.and_true, Bool.true_and])) (by first | rfl | (simp only [go_sem, Bool.and_self, Bool.and_true, Bool.true_and])) ?_; simp only [Tryd.ntmps13, Tryd.results13, List.length_cons, List.length_nil, Nat.reduceAdd, Nat.reduceSub, List.replicate_succ, List.replicate_zero, List.cons_append, List.nil_append])
  repeat (first | (with_reducible first | refine Stp.up ?_ | refine fun (K : AK) hK => ?_ | (refine hK _ ?_; clear hK K)) | simp only [go_sem] | with_reducible refine wA ?_ | clear hK K)
  refine ACallV.one S ?_
  repeat (first | (with_reducible first | refine Stp.up ?_ | refine fun (K : AK) hK => ?_ | (refine hK _ ?_; clear hK K)) | simp only [go_sem] | with_reducible refine wA ?_ | clear hK K)
  refine ACallV.one C ?_
  repeat (first | (with_reducible first | refine Stp.up ?_ | refine fun (K : AK) hK => ?_ | (refine hK _ ?_; clear hK K)) | simp only [go_sem] | with_reducible refine wA ?_ | clear hK K)

end Go.Proofs.YtmdkgajjekbanaaDoor
