/- dfa.least: the parts, as they are reached. -/
import Derived.Test.YtfflpdekojlnmaaDoorLDfaD
set_option linter.unusedSimpArgs false
set_option linter.unusedVariables false
namespace Go.Proofs.YtfflpdekojlnmaaDoor
open Go.RowKit

section
variable {D : Nat → Prop} {nu : Nat → Nat → Value} {o : List (Option AObj)} {w : World} {P : Program}
theorem turn_to {s : AS} {k i j id len : Nat} {ob : AObj} {row : List AV} (x' : AV) (hto : ∀ (D : Nat → Prop) (nu : Nat → Nat → Value) (w : World), RO D nu s.o w → RA D nu (s.o.set id none) w x' (nu id len)) (hne : id ≠ k) (hk : s.o[k]? = some (some ob)) (hz : 0 < ob.z) (hr : ob.rows[i]? = some row) (hj : row[j]? = some (.vec id len)) :
  Turn s (AS.mk s.t ((s.o.set id none).set k (some { ob with rows := ob.rows.set i (row.set j x') })) s.y) := by
 intro f D nu a w hs
 have hp := kill_mono (nu := nu) (o := s.o) (w := w) id
 have hro := kill_RO hs.ro id
 have hk' : (s.o.set id none)[k]? = some (some ob) := by rw [List.getElem?_set_ne hne]; exact hk
 have hh : ob.hl = ({ ob with rows := ob.rows.set i (row.set j x') } : AObj).hl := by simp [AObj.hl]
 obtain ⟨g, cur, hb⟩ : ∃ g cur, ROb D nu (s.o.set id none) w k ob g cur := by
  rcases hro.obj k ob hk' with ⟨_, e, _⟩ | h | ⟨g, es, cl, hm⟩
  ·rw [e] at hr; simp at hr
  ·exact h
  ·have := hm.z; omega
 have hm := set_mono (nu := nu) (o := s.o.set id none) (w := w) (w' := w) (ob' := { ob with rows := ob.rows.set i (row.set j x') }) hk' hh.symm hb.blkEq rfl rfl rfl rfl (fun _ _ => rfl)
 refine ⟨nu, hp.trans hm, rfl, ?_, (hs.tm.mono hp (fun _ _ h => h)).mono hm (fun _ _ h => h), hs.dfr⟩
 have hil := (List.getElem?_eq_some_iff.1 hr).1
 have hjl := (List.getElem?_eq_some_iff.1 hj).1
 have hsl := hto D nu w hs.ro
 have key : ∀ (i' j' : Nat) r c, (ob.rows.set i (row.set j x'))[i']? = some r → r[j']? = some c → ∃ r0 c0, ob.rows[i']? = some r0 ∧ r0[j']? = some c0 ∧ (c = c0 ∨ (c = x' ∧ c0 = .vec id len)) := by
  intro i' j' r c h1 h2
  by_cases hi : i = i'
  ·subst hi
   rw [List.getElem?_set_self hil] at h1; cases h1
   by_cases hj' : j = j'
   ·subst hj'
    rw [List.getElem?_set_self hjl] at h2; cases h2
    exact ⟨row, _, hr, hj, .inr ⟨rfl, rfl⟩⟩
   ·rw [List.getElem?_set_ne hj'] at h2
    exact ⟨row, c, hr, h2, .inl rfl⟩
  ·rw [List.getElem?_set_ne hi] at h1
   exact ⟨r, c, h1, h2, .inl rfl⟩
 refine set_RO hro hk' hh.symm hb.blkEq hm (fun _ _ => rfl) (cur := cur) ⟨hb.blk, hb.dom, fun hv' => ?_, fun hv' => ?_, hb.z, fun i' r hi' => ?_, fun i' j' r c x h1 h2 h3 => ?_, fun i' j' r c x h1 h2 h3 => ?_⟩
 ·obtain ⟨q1, q2, q3⟩ := hb.box hv'
  exact ⟨q1, by simpa using q2, q3⟩
 ·obtain ⟨cap, q1, q2, q3, q4⟩ := hb.vec hv'
  exact ⟨cap, by simpa using q1, by simpa using q2, q3, q4⟩
 ·by_cases hi : i = i'
  ·subst hi
   rw [List.getElem?_set_self hil] at hi'; cases hi'
   rw [List.length_set]; exact hb.row i row hr
  ·rw [List.getElem?_set_ne hi] at hi'
   exact hb.row i' r hi'
 ·obtain ⟨r0, c0, k1, k2, e⟩ := key i' j' r c h1 h2
  have h0 := hb.cell i' j' r0 c0 x k1 k2 h3
  rcases e with rfl | ⟨rfl, rfl⟩
  ·exact h0.mono hm (fun _ _ h => h)
  ·have hx : x = nu id len := by
    cases h0 with
    | vec => rfl
   rw [hx]
   exact hsl.mono hm (fun _ _ h => h)
 ·obtain ⟨r0, c0, k1, k2, _⟩ := key i' j' r c h1 h2
  exact hb.one i' j' r0 c0 x k1 k2 h3
theorem turn_frcM {s : AS} {k i j id : Nat} {ob ob2 : AObj} {row : List AV} (hne : id ≠ k) (hk : s.o[k]? = some (some ob)) (hz : 0 < ob.z) (hr : ob.rows[i]? = some row) (hj : row[j]? = some (.vec id 0)) (ho : s.o[id]? = some (some ob2)) (hv : ob2.isV = false) (hz2 : ob2.z = 0) :
  Turn s (AS.mk s.t ((s.o.set id none).set k (some { ob with rows := ob.rows.set i (row.set j (.mp ob2.rows)) })) s.y) := turn_to (.mp ob2.rows) (fun D nu w h => map_mp h ho hv hz2) hne hk hz hr hj
end
/-! ### numbers' places -/
def iM (l : List Nat) : List (List AV) := l.zipIdx.map (fun p => [.v (.int .i64 (p.1 : Nat)), .v (.int .i64 (p.2 : Nat))])
@[go_sem] theorem wf_iM (n : Nat) (l : List Nat) : wfR n (iM l) = true := wfR_map _ (fun p => rfl) _
theorem aGet_iz (x : Nat) : ∀ (l : List Nat) (k : Nat), aGet (.int .i64) (.int .i64 (x : Nat)) ((l.zipIdx k).map (fun p => [.v (.int .i64 (p.1 : Nat)), .v (.int .i64 (p.2 : Nat))])) = some ((l.findIdx? (fun y => x == y)).map (fun n => .v (.int .i64 ((n + k : Nat) : Int))))
 | [], k => rfl
 | a :: l, k => by
  have ih := aGet_iz x l (k + 1)
  rw [List.zipIdx_cons, List.map_cons, aGet, if_pos (show isKeyB (.int .i64) (.int .i64 (a : Nat)) = true from rfl)]
  have e : keyEqB (.int .i64 (x : Nat)) (.int .i64 (a : Nat)) = (x == a) := by
   rw [keyEqB, Bool.eq_iff_iff, beq_iff_eq, beq_iff_eq]; omega
  rw [e, List.findIdx?_cons]
  cases h : x == a
  ·simp only [Bool.false_eq_true, if_false]
   rw [ih, Option.map_map]
   congr 2; funext i; simp; omega
  ·simp
theorem aGet_i (x : Nat) (l : List Nat) : aGet (.int .i64) (.int .i64 (x : Nat)) (iM l) = some ((l.findIdx? (fun y => x == y)).map (fun n => .v (.int .i64 (n : Nat)))) := aGet_iz x l 0
theorem aSet_iz (x : Nat) (v : AV) : ∀ (l : List Nat) (k : Nat), l.findIdx? (fun y => x == y) = none → aSet (.int .i64) (.int .i64 (x : Nat)) v ((l.zipIdx k).map (fun p => [.v (.int .i64 (p.1 : Nat)), .v (.int .i64 (p.2 : Nat))])) = some ((l.zipIdx k).map (fun p => [.v (.int .i64 (p.1 : Nat)), .v (.int .i64 (p.2 : Nat))]) ++ [[.v (.int .i64 (x : Nat)), v]])
 | [], k, _ => rfl
 | a :: l, k, h => by
  rw [List.findIdx?_cons] at h
  have e : keyEqB (.int .i64 (x : Nat)) (.int .i64 (a : Nat)) = (x == a) := by
   rw [keyEqB, Bool.eq_iff_iff, beq_iff_eq, beq_iff_eq]; omega
  cases hh : x == a
  ·rw [hh] at h
   simp only [Bool.false_eq_true, if_false, Option.map_eq_none_iff] at h
   have ih := aSet_iz x v l (k + 1) h
   rw [List.zipIdx_cons, List.map_cons, aSet, if_pos (show isKeyB (.int .i64) (.int .i64 (a : Nat)) = true from rfl), e, hh, if_neg (by decide), ih]; rfl
  ·rw [hh] at h; simp at h
theorem aSet_i (x : Nat) (l : List Nat) (h : l.findIdx? (fun y => x == y) = none) : aSet (.int .i64) (.int .i64 (x : Nat)) (.v (.int .i64 (l.length : Nat))) (iM l) = some (iM (l ++ [x])) := by
 rw [iM, aSet_iz x _ l 0 h, iM, List.zipIdx_append]; simp
/-! ### the walk -/
theorem frz_agg {o : List (Option AObj)} {z1 l1 z2 l2 : Nat} {r1 r2 : List (List AV)} (h1 : wfR 0 r1 = true) (h2 : wfR 0 r2 = true) : FrzS o (.agg [.slc z1 r1 l1, .slc z2 r2 l2]) (.agg [.slc z1 r1 l1, .slc z2 r2 l2]) :=
 FrzS.of 5 (p := (AV.slc z1 r1 l1).wf 0 = true ∧ (AV.slc z2 r2 l2).wf 0 = true ∧ True) (by simp only [aFrz, aFrzL]) ⟨by rw [AV.wf]; exact h1, by rw [AV.wf]; exact h2, trivial⟩
def gA (rows : List LRow) (ends : List Bool) : AV := .agg (gV rows ends)
def lstO (n : Nat) (part : List Nat) (order : List Nat) (rows : List LRow) (ends : List Bool) : List (Option AObj) := [some ⟨54, 2, false, [[.vec 6 rows.length, .vec 7 rows.length]]⟩, some ⟨75, 1, false, [[.slc 1 (encN part) n]]⟩, some ⟨82, 0, false, iM (order.map (fun s => part.getD s 0))⟩, some ⟨82, 1, false, [[.vec 2 0]]⟩, some ⟨3, 1, true, encN order⟩, some ⟨75, 1, false, [[.vec 4 order.length]]⟩, some ⟨60, 1, true, rows.map (fun r => [.mp (mRow r)])⟩, some ⟨4, 1, true, ends.map (fun b => [.v (.bool b)])⟩]
set_option maxRecDepth 100000 in
set_option maxHeartbeats 8000000 in
theorem least_c {rows : List LRow} {ends : List Bool} (ok : GOk rows ends) (h0 : 0 < rows.length) (hpt : (partsM rows ends).length = rows.length) : Call1 Tryd.prog 18 [.vp (gV rows ends)] (gA (leastM rows ends (partsM rows ends)).rows (leastM rows ends (partsM rows ends)).ends) := by
 have hN := ok.n
 have hE := ok.e
 have CP := parts_c ok
 generalize hpart : partsM rows ends = part at CP hpt
 have hA : wfL 0 [AV.vp (gV rows ends)] = true := by simp only [gV, wfL, AV.wf, wf_gR, wf_gE, Bool.and_self]
 have hF : (gA (leastM rows ends part).rows (leastM rows ends part).ends).wf 0 = true := by simp only [gA, gV, wfL, AV.wf, wf_gR, wf_gE, Bool.and_self]
 generalize hrv : gA (leastM rows ends part).rows (leastM rows ends part).ends = rv at hF ⊢
 (refine Call1.enterS Tryd.func18 rfl (by kernel_rfl) (by kernel_rfl) rfl hA hF ?_; simp only [Tryd.ntmps18, Tryd.results18, List.length_cons, List.length_nil, Nat.reduceAdd, Nat.reduceSub, List.replicate_succ, List.replicate_zero, List.cons_append, List.nil_append])
 simp only [gV, hE] at CP hA ⊢
 have eP : (encN part).getD 0 [] = [.v (.int .i64 ((part.getD 0 0 : Nat) : Int))] := by
  rw [encN, List.getD_eq_getElem?_getD, List.getElem?_map, List.getElem?_eq_getElem (by omega), List.getD_eq_getElem?_getD, List.getElem?_eq_getElem (by omega)]; rfl
 repeat (first | (with_reducible first | refine Stp.up ?_ | refine fun (K : AK) hK => ?_ | refine wE ?_ | refine wD ?_ | refine wK ?_ | refine wF ?_ | (refine hK _ ?_; clear hK K)) | simp only [go_sem] | with_reducible refine wA ?_ | clear hK K)
 refine ACallV.one CP ?_
 repeat ((fail_if_success (with_reducible refine stopR (i := 4) ?_)); first | (with_reducible first | refine Stp.up ?_ | refine fun (K : AK) hK => ?_ | refine wK ?_ | refine wF ?_ | (refine hK _ ?_; clear hK K)) | simp only [go_sem, eP] | with_reducible refine wA ?_ | clear hK K)
 refine awp_turn (turn_cell (k := 0) (i := 0) (j := 0) 60 1 (by decide) rfl (by decide) rfl rfl) (by kernel_rfl) ?_
 simp only [List.set_cons_zero, List.set_cons_succ, List.length_cons, List.length_nil, Nat.reduceAdd, List.cons_append, List.nil_append]
 refine awp_turn (turn_cell (k := 0) (i := 0) (j := 1) 4 1 (by decide) rfl (by decide) rfl rfl) (by kernel_rfl) ?_
 simp only [List.set_cons_zero, List.set_cons_succ, List.length_cons, List.length_nil, Nat.reduceAdd, List.cons_append, List.nil_append]
 repeat (first | (with_reducible first | refine Stp.up ?_ | refine fun (K : AK) hK => ?_ | refine wE ?_ | refine wD ?_ | refine wK ?_ | refine wF ?_ | (refine hK _ ?_; clear hK K)) | simp only [go_sem] | with_reducible refine wA ?_ | clear hK K)
 refine awp_loopO (ι := QSt) 7 (fun st => [(6, .v (.int .i64 st.rows.length))]) (fun st => lstO rows.length part st.order st.rows st.ends) (fun st => rows.length + 1 - st.rows.length) (fun st => QOk rows part st ∧ gA (qRun rows ends part (rows.length + 1 - st.rows.length) st).rows (qRun rows ends part (rows.length + 1 - st.rows.length) st).ends = rv) q0
  ⟨q0_ok rows part h0, hrv⟩ ?_ ?_
 ·simp only [lstO, q0]
  (refine wk_mk ?_ ?_ ?_ <;> simp only [frm, List.foldl_cons, List.foldl_nil, List.replicate_succ, List.replicate_zero, WkT, WkO, AV.v.injEq, Value.int.injEq, Value.bool.injEq, Value.string.injEq, AV.vec.injEq, AV.ptr.injEq, true_or, or_true, false_or, or_false, AObj.mk.injEq, forall_eq_apply_imp_iff, forall_eq, forall_eq', go_sem])
  all_goals first | rfl | exact ⟨rfl, rfl⟩ | exact ⟨rfl, rfl, rfl⟩ | exact ⟨⟨rfl, rfl⟩, rfl⟩ | trace_state
 ·rintro st ⟨hok, hrun⟩ K hK
  have hol := order_le part hok.nd hok.lt
  have hle := hok.le
  have hel := hok.ends
  have eL : ∀ l : List Nat, (encN l).length = l.length := fun l => by simp [encN]
  simp only [lstO]
  repeat (first | (with_reducible first | refine Stp.up ?_ | refine fun (K : AK) hK => ?_ | refine wE ?_ | refine wD ?_ | refine wK ?_ | refine wF ?_ | (refine hK _ ?_; clear hK K)) | simp only [go_sem, eL] | with_reducible refine wA ?_ | clear hK K)
  refine AIf.part (fun h => ?_) (fun h => ?_)
  ·have hlt : st.rows.length < st.order.length := by (try simp only [bne_iff_ne, ne_eq, bne_eq_false_iff_eq, beq_iff_eq, beq_eq_false_iff_ne, decide_eq_true_eq, decide_eq_false_iff_not, Bool.not_eq_eq_eq_not, Int.natCast_inj, Int.ofNat_lt, Int.ofNat_le] at h); omega
   have hcu : qCur st < rows.length := hok.lt _ (getD_mem hlt)
   have eW := wrap_succ (k := st.rows.length) (by omega)
   have eG : (encN st.order).getD st.rows.length [] = [.v (.int .i64 ((qCur st : Nat) : Int))] := by
    rw [qCur, encN, List.getD_eq_getElem?_getD, List.getElem?_map, List.getElem?_eq_getElem hlt, List.getD_eq_getElem?_getD, List.getElem?_eq_getElem hlt]; rfl
   have CS := steps_c rows ends (qCur st)
   have hlr := ok.lab _ (List.getElem_mem hcu)
   have hln := ok.len _ (List.getElem_mem hcu)
   have hseq := steps_seq rows ends (qCur st) hcu (by omega) (fun p hp => Nat.le_trans (hlr p hp).1 (by decide)) (ok.rise _ (List.getElem_mem hcu)) (by omega)
   simp only [gV, hE] at CS hseq
   have hri := ok.rise _ (List.getElem_mem hcu)
   have hg : rows.getD (qCur st) [] = rows[qCur st] := by rw [List.getD_eq_getElem?_getD, List.getElem?_eq_getElem hcu]; rfl
   have hnx : qNext rows ends part st = ⟨(qIns part st.order rows[qCur st]).1, st.rows ++ [(qIns part st.order rows[qCur st]).2], st.ends ++ [ends.getD (qCur st) false]⟩ := by rw [qNext, hg]
   generalize rows[qCur st] = row at hlr hln hseq hnx hri hg
   rw [show rows.length + 1 - st.rows.length = (rows.length - st.rows.length) + 1 by omega, qRun, if_pos hlt] at hrun
   repeat (first | (with_reducible first | refine Stp.up ?_ | refine fun (K : AK) hK => ?_ | refine wE ?_ | refine wD ?_ | refine wK ?_ | refine wF ?_ | (refine hK _ ?_; clear hK K)) | simp only [go_sem, eG, eL, h] | with_reducible refine wA ?_ | clear hK K)
   refine ACallV.one CS ?_
   repeat (first | (with_reducible first | refine Stp.up ?_ | refine fun (K : AK) hK => ?_ | refine wE ?_ | refine wD ?_ | refine wK ?_ | refine wF ?_ | (refine hK _ ?_; clear hK K)) | simp only [go_sem] | with_reducible refine wA ?_ | clear hK K)
   refine awp_rangeO hseq 35 (fun k => lstO rows.length part (qIns part st.order (row.take k)).1 st.rows st.ends ++ [some ⟨60, 0, false, mRow (qIns part st.order (row.take k)).2⟩, some ⟨60, 1, false, [[.vec 8 0]]⟩]) (fun k => k ≤ row.length) (Nat.zero_le _) ?_ ?_ ?_ (by kernel_rfl) (by kernel_rfl) ?_ ?_ ?_
   ·repeat (first | (with_reducible first | refine Stp.up ?_ | refine fun (K : AK) hK => ?_ | refine wE ?_ | refine wD ?_ | refine wK ?_ | refine wF ?_ | (refine hK _ ?_; clear hK K)) | simp only [go_sem] | with_reducible refine wA ?_ | clear hK K)
   ·simp only [wfL, AV.wf, wf_gR, wf_gE, Bool.and_self]
   ·simp only [lstO, List.cons_append, List.nil_append, List.take_zero, qIns, List.foldl_nil]
    (refine wk_mk ?_ ?_ ?_ <;> simp only [frm, List.foldl_cons, List.foldl_nil, List.replicate_succ, List.replicate_zero, WkT, WkO, AV.v.injEq, Value.int.injEq, Value.bool.injEq, Value.string.injEq, AV.vec.injEq, AV.ptr.injEq, true_or, or_true, false_or, or_false, AObj.mk.injEq, forall_eq_apply_imp_iff, forall_eq, forall_eq', go_sem])
    all_goals rfl
   ·intro x hx
    obtain ⟨o, _, rfl⟩ := List.mem_map.1 hx
    rfl
   ·intro k x hk hx
    obtain ⟨hkl, hx⟩ : ∃ h : k < row.length, x = [.v (.string row[k].1), .v (.int .i64 (row[k].2 : Nat))] := by
     obtain ⟨h1, h2⟩ := List.getElem?_eq_some_iff.1 hx
     simp only [mRow, List.length_map] at h1
     exact ⟨h1, by rw [← h2]; simp [mRow]⟩
    subst hx
    obtain ⟨hz1, hz2⟩ := hlr _ (List.getElem_mem hkl)
    have eT : (encN part).getD row[k].2 [] = [.v (.int .i64 ((part.getD row[k].2 0 : Nat) : Int))] := by
     rw [encN, List.getD_eq_getElem?_getD, List.getElem?_map, List.getElem?_eq_getElem (by omega), List.getD_eq_getElem?_getD, List.getElem?_eq_getElem (by omega)]; rfl
    have hI := qIns_snoc part st.order (row.take k) row[k]
    rw [← List.take_succ_eq_append_getElem hkl, qIn] at hI
    obtain ⟨k1, k2, k3, k4, k5, _⟩ := qIns_ok part (n := rows.length) hok.nd hok.lt (row.take k) (fun p hp => (hlr _ (List.mem_of_mem_take hp)).2)
    have hdl := order_le part k1 k2
    have hnl : look (qIns part st.order (row.take k)).2 row[k].1 = none := look_none.2 fun q => by
     rw [k5] at q
     exact nd_take (l := row.map Prod.fst) (rise_nd hri) (i := k) (by simpa using hkl) (by simpa [List.map_take] using q)
    rcases hqs : qIns part st.order (row.take k) with ⟨od, ow⟩
    rw [hqs] at hI k1 k2 k3 k4 k5 hdl hnl
    simp only at hI k1 k2 k3 k4 k5 hdl hnl
    have eA := aGet_i (part.getD row[k].2 0) (od.map (fun s => part.getD s 0))
    have hqp : (od.map (fun s => part.getD s 0)).findIdx? (fun y => part.getD row[k].2 0 == y) = qpos part od (part.getD row[k].2 0) := rfl
    simp only [lstO, List.cons_append, List.nil_append]
    cases hp : qpos part od (part.getD row[k].2 0) with
    | some n =>
     rw [hqp, hp] at eA
     rw [hp] at hI
     simp only [Option.map_some] at eA hI
     have eS := aSet_r row[k].1 n ow hnl
     repeat (first | (with_reducible first | refine Stp.up ?_ | refine fun (K : AK) hK => ?_ | refine wE ?_ | refine wD ?_ | refine wK ?_ | refine wF ?_ | (refine hK _ ?_; clear hK K)) | simp only [go_sem, eT, eA, eS] | with_reducible refine wA ?_ | clear hK K)
     simp only [lstO, List.cons_append, List.nil_append, hI]
     (refine wk_mk ?_ ?_ ?_ <;> simp only [frm, List.foldl_cons, List.foldl_nil, List.replicate_succ, List.replicate_zero, WkT, WkO, AV.v.injEq, Value.int.injEq, Value.bool.injEq, Value.string.injEq, AV.vec.injEq, AV.ptr.injEq, true_or, or_true, false_or, or_false, AObj.mk.injEq, forall_eq_apply_imp_iff, forall_eq, forall_eq', go_sem])
    | none =>
     rw [hqp, hp] at eA
     rw [hp] at hI
     simp only [Option.map_none] at eA hI
     have eS := aSet_r row[k].1 od.length ow hnl
     have eK := aSet_i (part.getD row[k].2 0) (od.map (fun s => part.getD s 0)) (hqp.trans hp)
     rw [List.length_map] at eK
     repeat (first | (with_reducible first | refine Stp.up ?_ | refine fun (K : AK) hK => ?_ | refine wE ?_ | refine wD ?_ | refine wK ?_ | refine wF ?_ | (refine hK _ ?_; clear hK K)) | simp only [go_sem, eT, eA, eS, eK, eL] | with_reducible refine wA ?_ | clear hK K)
     simp only [lstO, List.cons_append, List.nil_append, hI]
     (refine wk_mk ?_ ?_ ?_ <;> simp only [frm, List.foldl_cons, List.foldl_nil, List.replicate_succ, List.replicate_zero, WkT, WkO, AV.v.injEq, Value.int.injEq, Value.bool.injEq, Value.string.injEq, AV.vec.injEq, AV.ptr.injEq, true_or, or_true, false_or, or_false, AObj.mk.injEq, forall_eq_apply_imp_iff, forall_eq, forall_eq', go_sem])
     exact ⟨by rw [List.map_append]; rfl, by simp [encN]⟩
   ·intro _
    have hmr : (mRow row).length = row.length := by simp [mRow]
    simp only [hmr, List.take_length]
    obtain ⟨k1, k2, k3, k4, k5, t, k6⟩ := qIns_ok part (n := rows.length) hok.nd hok.lt row (fun p hp => (hlr _ hp).2)
    have hdl := order_le part k1 k2
    rcases hqs : qIns part st.order row with ⟨od, ow⟩
    rw [hqs] at k1 k2 k3 k4 k5 k6 hdl hnx
    simp only at k1 k2 k3 k4 k5 k6 hdl hnx
    have eG2 : (encN od).getD st.rows.length [] = [.v (.int .i64 ((qCur st : Nat) : Int))] := by
     rw [k6, encN, List.map_append, getD_app_lt (by rw [List.length_map]; exact hlt)]
     exact eG
    have eE : (ends.map (fun b => [AV.v (.bool b)])).getD (qCur st) [] = [.v (.bool (ends.getD (qCur st) false))] := by
     rw [List.getD_eq_getElem?_getD, List.getElem?_map, List.getElem?_eq_getElem (by omega), List.getD_eq_getElem?_getD, List.getElem?_eq_getElem (by omega)]; rfl
    generalize ends.getD (qCur st) false = be at eE hnx
    simp only [lstO, List.cons_append, List.nil_append]
    repeat ((fail_if_success (with_reducible refine stopR (i := 17) ?_)); first | (with_reducible first | refine Stp.up ?_ | refine fun (K : AK) hK => ?_ | refine wK ?_ | refine wF ?_ | (refine hK _ ?_; clear hK K)) | simp only [go_sem] | with_reducible refine wA ?_ | clear hK K)
    refine awp_turn (turn_frcM (k := 9) (i := 0) (j := 0) (by decide) rfl (Nat.zero_lt_succ _) rfl rfl rfl rfl rfl) (by kernel_rfl) ?_
    simp only [List.set_cons_zero, List.set_cons_succ]
    repeat (first | (with_reducible first | refine Stp.up ?_ | refine fun (K : AK) hK => ?_ | refine wE ?_ | refine wD ?_ | refine wK ?_ | refine wF ?_ | (refine hK _ ?_; clear hK K)) | simp only [go_sem, eG2, eE, eL, eW] | with_reducible refine wA ?_ | clear hK K)
    have hnok : QOk rows part (qNext rows ends part st) := qNext_ok rows ends part (fun r hr p hp => (ok.lab r hr p hp).2) hok hlt
    rw [hnx] at hnok hrun
    refine LNext.mk ⟨od, st.rows ++ [ow], st.ends ++ [be]⟩ ⟨hnok, ?_⟩ ?_ ?_
    ·rw [show rows.length + 1 - (QSt.rows ⟨od, st.rows ++ [ow], st.ends ++ [be]⟩).length = rows.length - st.rows.length by simp only [List.length_append, List.length_singleton]; omega]
     exact hrun
    ·show rows.length + 1 - (st.rows ++ [ow]).length < rows.length + 1 - st.rows.length
     rw [List.length_append, List.length_singleton]; omega
    ·simp only [lstO, List.length_append, List.length_singleton, List.map_append, List.map_cons, List.map_nil]
     (refine wk_mk ?_ ?_ ?_ <;> simp only [frm, List.foldl_cons, List.foldl_nil, List.replicate_succ, List.replicate_zero, WkT, WkO, AV.v.injEq, Value.int.injEq, Value.bool.injEq, Value.string.injEq, AV.vec.injEq, AV.ptr.injEq, true_or, or_true, false_or, or_false, AObj.mk.injEq, forall_eq_apply_imp_iff, forall_eq, forall_eq', go_sem])
     all_goals trace_state
  ·have hge : st.rows.length = st.order.length := by (try simp only [bne_iff_ne, ne_eq, bne_eq_false_iff_eq, beq_iff_eq, beq_eq_false_iff_ne, decide_eq_true_eq, decide_eq_false_iff_not, Bool.not_eq_eq_eq_not, Int.natCast_inj, Int.ofNat_lt, Int.ofNat_le] at h); omega
   rw [show rows.length + 1 - st.rows.length = (rows.length - st.rows.length) + 1 by omega, qRun, if_neg (by omega)] at hrun
   clear h
   repeat ((fail_if_success (with_reducible refine stopR (i := 19) ?_)); first | (with_reducible first | refine Stp.up ?_ | refine fun (K : AK) hK => ?_ | refine wK ?_ | refine wF ?_ | (refine hK _ ?_; clear hK K)) | simp only [go_sem] | with_reducible refine wA ?_ | clear hK K)
   refine awp_turn (turn_frc (k := 0) (i := 0) (j := 0) (by decide) rfl (Nat.zero_lt_succ _) rfl rfl rfl rfl (List.length_map _)) (by kernel_rfl) ?_
   simp only [List.set_cons_zero, List.set_cons_succ]
   refine awp_turn (turn_frc (k := 0) (i := 0) (j := 1) (by decide) rfl (Nat.zero_lt_succ _) rfl rfl rfl rfl ((List.length_map _).trans hel)) (by kernel_rfl) ?_
   simp only [List.set_cons_zero, List.set_cons_succ]
   repeat (first | (with_reducible first | refine Stp.up ?_ | refine fun (K : AK) hK => ?_ | refine wE ?_ | refine wD ?_ | refine wK ?_ | refine wF ?_ | (refine hK _ ?_; clear hK K)) | simp only [go_sem] | with_reducible refine wA ?_ | clear hK K)
   rw [← hrun]
   simp only [gA, gV, hel]
   exact frz_agg (wf_gR _ _) (wf_gE _ _)
end Go.Proofs.YtfflpdekojlnmaaDoor
