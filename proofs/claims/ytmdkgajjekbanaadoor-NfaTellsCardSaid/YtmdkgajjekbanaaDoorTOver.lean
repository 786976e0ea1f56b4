/- kinescopelaw08: NfaTells: what nfa tells is what the reference tells; First as an own row. -/
import Derived.Test.YtmdkgajjekbanaaDoorTLawNfc
import Derived.StillTailTactics
import Derived.Test.YtmdkgajjekbanaaDoorTBase2
set_option linter.unusedSimpArgs false
set_option linter.unusedVariables false
namespace Go.Proofs.YtmdkgajjekbanaaDoor
open Go.RowKit

theorem tell_lab {x : Ex} (hr : exRight x = true) (p : Int) : labAt (newM x) p = rlab (labE x) p := by
  have L := newM_law hr
  rw [labAt, rlab, L.labs]
  by_cases h : 1 ≤ p ∧ p ≤ (labE x).length
  · rw [if_pos h, if_pos h, show (p - 1).toNat = p.toNat - 1 by omega]
  · rw [if_neg h, if_neg h]
theorem tell_fol {x : Ex} (hr : exRight x = true) (p : Int) : folAt (newM x) p = rfol x p := by
  have L := newM_law hr
  rw [folAt, rfol, L.labs]
  by_cases h : 1 ≤ p ∧ p ≤ (labE x).length
  · rw [if_pos h, if_pos h]
    refine rise_ext (bitsM_rise _) (setN_rise _ _) fun q => ?_
    rw [bitsM_mem, setN_mem]
    constructor
    · intro h1
      have hq := L.ok.fol _ _ h1
      rw [L.labs] at hq
      refine ⟨hq.1, hq.2, ?_⟩
      rw [folB_iff, show q - 1 + 1 = q by omega, show p.toNat - 1 + 1 = p.toNat by omega]
      exact (L.fol _ _ (by omega)).1 h1
    · rintro ⟨h1, h2, h3⟩
      rw [folB_iff, show q - 1 + 1 = q by omega, show p.toNat - 1 + 1 = p.toNat by omega] at h3
      exact (L.fol _ _ (by omega)).2 h3
  · rw [if_neg h, if_neg h]
theorem tell_fst {x : Ex} (hr : exRight x = true) : bitsM ((newM x).fs.getD 0 0#32) = setN (labE x).length (fstB x 0) := by
  have L := newM_law hr
  refine rise_ext (bitsM_rise _) (setN_rise _ _) fun q => ?_
  rw [bitsM_mem, setN_mem]
  constructor
  · intro h1
    have hq := L.ok.fol _ _ h1
    rw [L.labs] at hq
    refine ⟨hq.1, hq.2, ?_⟩
    rw [fstB_iff, show q - 1 + 1 = q by omega]
    exact (L.fst _).1 h1
  · rintro ⟨h1, h2, h3⟩
    rw [fstB_iff, show q - 1 + 1 = q by omega] at h3
    exact (L.fst _).2 h3
theorem tell_lst {x : Ex} (hr : exRight x = true) : bitsM (newM x).la = setN (labE x).length (lstB x 0) := by
  have L := newM_law hr
  refine rise_ext (bitsM_rise _) (setN_rise _ _) fun q => ?_
  rw [bitsM_mem, setN_mem]
  constructor
  · intro h1
    have hq := L.ok.la _ h1
    rw [L.labs] at hq
    refine ⟨hq.1, hq.2, ?_⟩
    rw [lstB_iff, show q - 1 + 1 = q by omega]
    exact (L.lst _).1 h1
  · rintro ⟨h1, h2, h3⟩
    rw [lstB_iff, show q - 1 + 1 = q by omega] at h3
    exact (L.lst _).2 h3
theorem tell_em {x : Ex} (hr : exRight x = true) : (newM x).em = emptyB x := by
  rw [(newM_law hr).em, emptyB, hr, Bool.true_and]
set_option maxRecDepth 100000 in
theorem list_e (m : BitVec 32) : CallE Tryd.prog 50 [encM m] [] (.vec 2 (bitsM m).length) [none, none, some ⟨3, 1, true, encN (bitsM m)⟩] := by
  have A := setAll_e m
  have hb := bitsM_len m
  simp only [boxM, encM] at *
  (refine CallE.enter Tryd.func50 rfl (by kernel_rfl) (by kernel_rfl) rfl ?_; simp only [Tryd.ntmps50, Tryd.results50, List.length_cons, List.length_nil, Nat.reduceAdd, Nat.reduceSub, List.replicate_succ, List.replicate_zero, List.cons_append, List.nil_append])
  repeat (first | (with_reducible first | refine Stp.up ?_ | refine fun (K : AS → Prop) hK => ?_ | refine wE ?_ | refine wD ?_ | refine wK ?_ | refine wF ?_ | refine adrawG_k (by decide) ?_ | refine adrawG_e (by decide) ?_ | (refine hK _ ?_; clear hK; clear K)) | simp only [go_sem] | (with_reducible refine And.intro (by omega) ?_) | (clear hK; clear K))
  refine ACallV.fr [] A (by simp) ?_ ?_ ?_ ?_ ?_
  · rfl
  · rfl
  · rfl
  · intro k ob hk; simp at hk
  repeat (first | (with_reducible first | refine Stp.up ?_ | refine fun (K : AS → Prop) hK => ?_ | refine wE ?_ | refine wD ?_ | refine wK ?_ | refine wF ?_ | refine adrawG_k (by decide) ?_ | refine adrawG_e (by decide) ?_ | (refine hK _ ?_; clear hK; clear K)) | simp only [go_sem] | (with_reducible refine And.intro (by omega) ?_) | (clear hK; clear K))
  refine asem_turn (turn_cell (k := 0) (i := 0) (j := 0) 3 1 (by decide) rfl (by decide) rfl rfl) (by kernel_rfl) ?_
  simp only [List.length_cons, List.length_nil, Nat.reduceAdd, List.cons_append, List.nil_append, List.set_cons_zero]
  refine awp_rangeSet m 1 rfl 3 (fun k => [some ⟨37, 1, false, [[.vec 2 k]]⟩, none, some ⟨3, 1, true, encN ((bitsM m).take k)⟩]) (fun _ => True) trivial ?_ rfl ?_ (by kernel_rfl) (by kernel_rfl) rfl ?_ ?_
  · rfl
  · (refine wk_mk ?_ ?_ ?_ <;> simp only [frm, List.foldl_cons, List.foldl_nil, List.replicate_succ, List.replicate_zero, WkT, WkO, AV.v.injEq, Value.int.injEq, Value.bool.injEq, Value.string.injEq, AV.vec.injEq, AV.ptr.injEq, true_or, or_true, false_or, or_false, AObj.mk.injEq, forall_eq_apply_imp_iff, forall_eq, forall_eq', go_sem])
    rfl
  · intro k hk _
    have eS : encN ((bitsM m).take (k + 1)) = encN ((bitsM m).take k) ++ [[.v (.int .i64 ((bitsM m)[k] : Nat))]] := by rw [List.take_succ_eq_append_getElem hk, encN, List.map_append]; rfl
    have eL : (encN ((bitsM m).take k)).length = k := by simp [encN]; omega
    repeat (first | (with_reducible first | refine Stp.up ?_ | refine fun (K : AS → Prop) hK => ?_ | refine wE ?_ | refine wD ?_ | refine wK ?_ | refine wF ?_ | refine adrawG_k (by decide) ?_ | refine adrawG_e (by decide) ?_ | (refine hK _ ?_; clear hK; clear K)) | simp only [go_sem] | (with_reducible refine And.intro (by omega) ?_) | (clear hK; clear K))
    rw [eS]
    (refine wk_mk ?_ ?_ ?_ <;> simp only [frm, List.foldl_cons, List.foldl_nil, List.replicate_succ, List.replicate_zero, WkT, WkO, AV.v.injEq, Value.int.injEq, Value.bool.injEq, Value.string.injEq, AV.vec.injEq, AV.ptr.injEq, true_or, or_true, false_or, or_false, AObj.mk.injEq, forall_eq_apply_imp_iff, forall_eq, forall_eq', go_sem])
  · intro _
    have e1 : (bitsM m).take (bitsM m).length = bitsM m := List.take_length
    repeat (first | (with_reducible first | refine Stp.up ?_ | refine fun (K : AS → Prop) hK => ?_ | refine wE ?_ | refine wD ?_ | refine wK ?_ | refine wF ?_ | refine adrawG_k (by decide) ?_ | refine adrawG_e (by decide) ?_ | (refine hK _ ?_; clear hK; clear K)) | simp only [go_sem, e1] | (with_reducible refine And.intro (by omega) ?_) | (clear hK; clear K))
    (refine ⟨?_, ?_, ?_⟩ <;> simp only [WkT, WkO, AV.v.injEq, Value.int.injEq, Value.bool.injEq, Value.string.injEq, AV.vec.injEq, AV.ptr.injEq, true_or, or_true, false_or, or_false, AObj.mk.injEq, forall_eq_apply_imp_iff, forall_eq, forall_eq', go_sem])
set_option maxRecDepth 100000 in
set_option maxHeartbeats 4000000 in
theorem nFirst_e (s : NSt) (hf : s.fs.length = 25) : CallE Tryd.prog 14 [.vp (nfaV s)] [] (.vec 2 (bitsM (s.fs.getD 0 0#32)).length) [none, none, some ⟨3, 1, true, encN (bitsM (s.fs.getD 0 0#32))⟩] := by
  have C := list_e (s.fs.getD 0 0#32)
  obtain ⟨r, eD⟩ := fs_drop (l := .slc 1 (s.labs.map encS) s.labs.length) (X := [.v (.int .u32 s.la.toNat), .v (.bool s.em)]) (fs := s.fs) (p := 0) (by omega)
  simp only [Nat.zero_mul, Nat.add_zero, List.drop_succ_cons, List.drop_zero] at eD
  simp only [nfaV, encM] at *
  (refine CallE.enter Tryd.func14 rfl (by kernel_rfl) (by kernel_rfl) rfl ?_; simp only [Tryd.ntmps14, Tryd.results14, List.length_cons, List.length_nil, Nat.reduceAdd, Nat.reduceSub, List.replicate_succ, List.replicate_zero, List.cons_append, List.nil_append])
  repeat (first | (with_reducible first | refine Stp.up ?_ | refine fun (K : AS → Prop) hK => ?_ | refine wE ?_ | refine wD ?_ | refine wK ?_ | refine wF ?_ | refine adrawG_k (by decide) ?_ | refine adrawG_e (by decide) ?_ | (refine hK _ ?_; clear hK; clear K)) | simp only [go_sem, eD] | (with_reducible refine And.intro (by omega) ?_) | (clear hK; clear K))
  refine ACallV.fr [] C (by simp) rfl rfl rfl (fun k ob hk => by simp at hk) ?_
  have hR : ∀ f, renR f (encN (bitsM (s.fs.getD 0 0#32))) = encN (bitsM (s.fs.getD 0 0#32)) := fun f => renR_wf0 f _ (wfR_map _ (fun _ => rfl) _)
  simp only [AV.ren, sig, putO, List.map_cons, List.map_nil, Option.map_none, Option.map_some, AObj.ren, hR, List.length_nil, List.nil_append, Nat.not_lt_zero, if_false, Nat.sub_zero, Nat.zero_add]
  repeat (first | (with_reducible first | refine Stp.up ?_ | refine fun (K : AS → Prop) hK => ?_ | refine wE ?_ | refine wD ?_ | refine wK ?_ | refine wF ?_ | refine adrawG_k (by decide) ?_ | refine adrawG_e (by decide) ?_ | (refine hK _ ?_; clear hK; clear K)) | simp only [go_sem] | (with_reducible refine And.intro (by omega) ?_) | (clear hK; clear K))
  (refine ⟨?_, ?_, ?_⟩ <;> simp only [WkT, WkO, AV.v.injEq, Value.int.injEq, Value.bool.injEq, Value.string.injEq, AV.vec.injEq, AV.ptr.injEq, true_or, or_true, false_or, or_false, AObj.mk.injEq, forall_eq_apply_imp_iff, forall_eq, forall_eq', go_sem])
end Go.Proofs.YtmdkgajjekbanaaDoor

namespace Go.Proofs.YtmdkgajjekbanaaDoor
open Go.RowKit

structure Besides (b : Nat) (w w' : World) : Prop where
  os : w'.os = w.os
  tape : w'.tape = w.tape
  output : w'.output = w.output
  size : w.heap.size ≤ w'.heap.size
  same : ∀ k, k < w.heap.size → k ≠ b → w'.heap[k]? = w.heap[k]?
theorem Besides.refl (b : Nat) (w : World) : Besides b w w := ⟨rfl, rfl, rfl, Nat.le_refl _, fun _ _ _ => rfl⟩

theorem setCell_at {w : World} {b k : Nat} {v : Value} {cur : Array Value} {T : TypeId} (h : w.heap[b]? = some (.cells cur T (0, 0))) : (w.setCell ⟨b, k, none⟩ v).heap[b]? = some (.cells (cur.setIfInBounds k v) T (0, 0)) := by
  simp [World.setCell, Array.getElem?_modify, h]
theorem Besides.set {w0 w : World} {b k : Nat} {v : Value} (h : Besides b w0 w) : Besides b w0 (w.setCell ⟨b, k, none⟩ v) :=
  ⟨h.os, h.tape, h.output, by simpa [World.setCell] using h.size, fun j h1 h2 => by
    have : (w.setCell ⟨b, k, none⟩ v).heap[j]? = w.heap[j]? := by
      simp only [World.setCell, Array.getElem?_modify]
      rw [if_neg (fun e => h2 e.symm)]
    exact this.trans (h.same j h1 h2)⟩
set_option maxRecDepth 100000 in
theorem mark_w (i : Nat) (hi : i ≤ 2000000) (w : World) : Calls Tryd.prog 51 #[.int .i64 2, .int .i64 i] w (fun e w' => (∃ j : Int, e = .returned (.int .i64 j)) ∧ w' = w) := by
  go_enter Tryd.func51, Tryd.ntmps51
  go_wp2_with fail
  go_ret
  exact ⟨⟨_, rfl⟩, rfl⟩
set_option maxRecDepth 100000 in
set_option maxHeartbeats 2000000 in
theorem overInts_w (w : World) {b n cap : Nat} {cur : Array Value} {T : TypeId} (hblk : w.heap[b]? = some (.cells cur T (0, 0))) (hn : n ≤ cap) (hc : cap ≤ maxLen) (hs : cur.size = cap) (hn6 : n ≤ 1000000) :
    Calls Tryd.prog 15 #[.slice (some ⟨b, 0, none⟩) n cap] w (fun e w' => e = .returned (.tuple #[]) ∧ Besides b w w') := by
  unfold maxLen at hc
  go_enter Tryd.func15, Tryd.ntmps15
  have HM := Lib.hid (fun (k : Nat) (hk : k ≤ 2000000) (W : World) => mark_w k hk W)
  by_cases hle : cap ≤ n + 12
  · go_wp2_with fail
    go_loopw [3] (fun i wr => ∃ (k : Nat) (cur' : Array Value), k ≤ cap ∧ i = .int .i64 k ∧ wr.heap[b]? = some (.cells cur' T (0, 0)) ∧ cur'.size = cap ∧ Besides b w wr) (fun i _ => cap - (intOf i).toNat)
    case atStart => exact ⟨0, cur, Nat.zero_le _, rfl, hblk, hs, .refl _ _⟩
    case round =>
      obtain ⟨k, cur', hk, rfl, hb', hs', hB⟩ := hrel
      have HB := Lib.hid hB; clear hB
      by_cases hlt : k < cap
      · have hcell : wr.cell? ⟨b, k, none⟩ = some (cur'[k]'(by omega)) := by simp [World.cell?, hb', Array.getElem?_eq_getElem (show k < cur'.size by omega)]
        have hfro : wr.frozen? ⟨b, k, none⟩ = false := by simp [World.frozen?, hb']
        go_wp2_with fail
        refine (HM.out k (by omega) wr).mono ?_
        rintro e w' ⟨⟨j, rfl⟩, rfl⟩
        go_wp2_with fail
        go_roundw
        case rel => exact ⟨k + 1, _, by omega, by go_num, setCell_at hb', by simpa using hs', HB.out.set⟩
        case measure => simp [intOf]; omega
      · go_wp2_with fail
        exact bodyPost_end (results_none rfl _ _ _) rfl ⟨rfl, HB.out⟩
  · go_wp2_with fail
    go_loopw [3] (fun i wr => ∃ (k : Nat) (cur' : Array Value), k ≤ n + 12 ∧ i = .int .i64 k ∧ wr.heap[b]? = some (.cells cur' T (0, 0)) ∧ cur'.size = cap ∧ Besides b w wr) (fun i _ => n + 12 - (intOf i).toNat)
    case atStart => exact ⟨0, cur, Nat.zero_le _, rfl, hblk, hs, .refl _ _⟩
    case round =>
      obtain ⟨k, cur', hk, rfl, hb', hs', hB⟩ := hrel
      have HB := Lib.hid hB; clear hB
      by_cases hlt : k < n + 12
      · have hcell : wr.cell? ⟨b, k, none⟩ = some (cur'[k]'(by omega)) := by simp [World.cell?, hb', Array.getElem?_eq_getElem (show k < cur'.size by omega)]
        have hfro : wr.frozen? ⟨b, k, none⟩ = false := by simp [World.frozen?, hb']
        go_wp2_with fail
        refine (HM.out k (by omega) wr).mono ?_
        rintro e w' ⟨⟨j, rfl⟩, rfl⟩
        go_wp2_with fail
        go_roundw
        case rel => exact ⟨k + 1, _, by omega, by go_num, setCell_at hb', by simpa using hs', HB.out.set⟩
        case measure => simp [intOf]; omega
      · go_wp2_with fail
        exact bodyPost_end (results_none rfl _ _ _) rfl ⟨rfl, HB.out⟩
theorem overInts_n (w : World) : Calls Tryd.prog 15 #[.slice none 0 0] w (fun e w' => e = .returned (.tuple #[]) ∧ w' = w) := by
  go_enter Tryd.func15, Tryd.ntmps15
  go_wp2_with fail
  go_loop [3] (fun i => i = .int .i64 0) (fun i => 0)
  case atStart => rfl
  case round =>
    subst hrel
    go_wp2_with fail
    exact bodyPost_end (results_none rfl _ _ _) rfl ⟨rfl, rfl⟩
theorem besides_kill {D : Nat → Prop} {nu : Nat → Nat → Value} {o : List (Option AObj)} {w w' : World} {id b : Nat} {ob : AObj} (h : RO D nu o w) (ho : o[id]? = some (some ob)) (hb : blkM (nu id ob.hl) = some b) (hB : Besides b w w') :
    Mono nu o w nu (o.set id none) w' ∧ RO D nu (o.set id none) w' := by
  have hk := kill_mono (nu := nu) (o := o) (w := w) id
  have hm : Mono nu o w nu (o.set id none) w' := ⟨hB.os, hB.tape, hB.output, hB.size, hk.hdr, fun k hlt hno => ⟨hB.same k hlt (fun e => hno ⟨id, ob, ho, by rw [e]; exact hb⟩), (hk.keep k hlt hno).2⟩⟩
  refine ⟨hm, ?_, fun k hle => h.up k (Nat.le_trans hB.size hle), fun i1 i2 b1 b2 b' k1 k2 => h.sep i1 i2 b1 b2 b' (kill_get k1).1 (kill_get k2).1, h.gl.mono hm (fun _ _ h => h)⟩
  intro id' ob' k1
  obtain ⟨k2, k3⟩ := kill_get k1
  have hne : ∀ g, blkM (nu id' ob'.hl) = some g → g < w.heap.size → w'.heap[g]? = w.heap[g]? := fun g hg hlt => hB.same g hlt (fun e => h.sep id id' ob ob' b ho k2 k3 hb (by rw [← e]; exact hg))
  rcases h.obj id' ob' k2 with e | ⟨g, cur, hr⟩ | ⟨g, es, cl, hmp⟩
  · exact .inl e
  · exact .inr (.inl ⟨g, cur, (hne g hr.blkEq (Array.getElem?_eq_some_iff.1 hr.blk).1).trans hr.blk, hr.dom, hr.box, hr.vec, hr.z, hr.row, fun i j row c x q1 q2 q3 => (hr.cell i j row c x q1 q2 q3).mono hm (fun _ _ h => h), hr.one⟩)
  · exact .inr (.inr ⟨g, es, cl, hmp.tr (hne g hmp.blkEq (Array.getElem?_eq_some_iff.1 hmp.blk).1) (fun h => h) rfl (fun i j row c x _ _ hr => hr.mono hm (fun _ _ h => h))⟩)
theorem overInts_e (T : TypeId) (rows : List (List AV)) {n : Nat} (hn : n ≤ 1000000) (hl : rows.length = n) : CallE Tryd.prog 15 [.vec 0 n] [some ⟨T, 1, true, rows⟩] (.tup []) [none] := by
  refine ⟨by kernel_rfl, fun D nu w vargs hro hra => ?_⟩
  obtain ⟨hlen, hat⟩ := hra
  obtain ⟨x, rfl⟩ : ∃ x, vargs = #[x] := by
    obtain ⟨l⟩ := vargs
    match l, hlen with
    | [x], _ => exact ⟨x, rfl⟩
  have hx : x = nu 0 n := by
    have := hat 0 _ x rfl rfl
    cases this with
    | vec => rfl
  subst hx
  have hh : AObj.hl ⟨T, 1, true, rows⟩ = n := by simp [AObj.hl, hl]
  rcases hro.obj 0 _ rfl with ⟨_, e2, e3⟩ | ⟨g, cur, hb⟩ | ⟨g, es, cl, hmp⟩
  · simp only at e2
    obtain rfl : n = 0 := by rw [← hl, e2]; rfl
    rw [e3]
    refine (overInts_n w).mono ?_
    rintro e w' ⟨rfl, rfl⟩
    exact ⟨_, nu, [none], .tup [], rfl, kill_mono (o := [some _]) 0, kill_RO hro 0, .tup _ _ rfl (fun i c x h => by simp at h), rfl, rfl⟩
  · obtain ⟨cap, q1, q2, q3, q4⟩ := hb.vec rfl
    simp only [hl, Nat.mul_one] at q1 q2 q4
    rw [q1]
    refine (overInts_w w hb.blk q2 q3 q4 hn).mono ?_
    rintro e w' ⟨rfl, hB⟩
    obtain ⟨m1, m2⟩ := besides_kill hro rfl hb.blkEq hB
    exact ⟨_, nu, [none], .tup [], rfl, m1, m2, .tup _ _ rfl (fun i c x h => by simp at h), rfl, rfl⟩
  · have := hmp.isV; cases this
end Go.Proofs.YtmdkgajjekbanaaDoor
