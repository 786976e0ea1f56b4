/- kinescoperef08.of: a part with kids. -/
import Derived.Test.YtmdkgajjekbanaaDoorEOf
set_option linter.unusedSimpArgs false
set_option linter.unusedVariables false
namespace Go.Proofs.YtmdkgajjekbanaaDoor
open Go.RowKit

noncomputable def fKids (f : Nat → Nat → Bool) (b : Nat) (l : List Ex) (i p q : Nat) : Bool := f p q || (List.range i).any (fun j => folB (kid l j) (bAt b l j) p q)
theorem fKids_0 (f : Nat → Nat → Bool) (b : Nat) (l : List Ex) : fKids f b l 0 = f := by funext p q; simp [fKids]
theorem fKids_succ (f : Nat → Nat → Bool) (b : Nat) (l : List Ex) (i : Nat) : (fun p q => fKids f b l i p q || folB (kid l i) (bAt b l i) p q) = fKids f b l (i + 1) := by
 funext p q
 rw [fKids, fKids, List.range_succ, List.any_append]; simp [Bool.or_assoc]
def lbs (labs : List ByteArray) (l : List Ex) (i : Nat) : List ByteArray := labs ++ labEs (l.take i)
theorem lbs_0 (labs : List ByteArray) (l : List Ex) : lbs labs l 0 = labs := by simp [lbs, labEs]
theorem lbs_len (labs : List ByteArray) (l : List Ex) (i : Nat) : (lbs labs l i).length = bAt labs.length l i := by rw [lbs, List.length_append, bAt]
theorem lbs_succ {labs : List ByteArray} {l : List Ex} {i : Nat} (h : i < l.length) : lbs labs l i ++ labE l[i] = lbs labs l (i + 1) := by
 rw [lbs, lbs, List.take_succ_eq_append_getElem h, labEs_app, List.append_assoc]; simp [labEs]
theorem lbs_le {labs : List ByteArray} {l : List Ex} {i n : Nat} (h : i < l.length) (hn : labs.length + (labEs l).length ≤ n) : (lbs labs l i).length + (labE l[i]).length ≤ n := by
 have e : (labEs l).length = (labEs (l.take (i + 1))).length + (labEs (l.drop (i + 1))).length := by rw [← List.length_append, ← labEs_app, List.take_append_drop]
 have e2 : (lbs labs l i).length + (labE l[i]).length = (lbs labs l (i + 1)).length := by rw [← List.length_append, lbs_succ h]
 rw [e2, lbs, List.length_append]; omega
noncomputable def kRow (n b : Nat) (l : List Ex) (j : Nat) : List AV := [.slc 1 (rwB n (fstB (kid l j) (bAt b l j))) n, .slc 1 (rwB n (lstB (kid l j) (bAt b l j))) n, .v (.bool (exEmpty (kid l j)))]
noncomputable def kRows (n b : Nat) (l : List Ex) (i : Nat) : List (List AV) := (List.range i).map (kRow n b l)
theorem kRows_len (n b : Nat) (l : List Ex) (i : Nat) : (kRows n b l i).length = i := by simp [kRows]
theorem kRows_succ (n b : Nat) (l : List Ex) (i : Nat) : kRows n b l (i + 1) = kRows n b l i ++ [kRow n b l i] := by rw [kRows, List.range_succ, List.map_append]; rfl
theorem kRows_at {n b : Nat} {l : List Ex} {i j : Nat} (h : j < i) : (kRows n b l i).getD j [] = kRow n b l j := by
 rw [List.getD_eq_getElem?_getD, kRows, List.getElem?_map, List.getElem?_range h]; rfl
theorem wf_kRow (m n b : Nat) (l : List Ex) (j : Nat) : wfL m (kRow n b l j) = true := by simp only [kRow, wfL, AV.wf, wf_rwB, Bool.and_self]
theorem wf_kRows (m n b : Nat) (l : List Ex) (i : Nat) : wfR m (kRows n b l i) = true := wfR_map _ (wf_kRow m n b l) _
theorem wkO_nt {m : Nat} {y : Ex} {labs : List ByteArray} {n : Nat} {f : Nat → Nat → Bool} {tl tl' : List (Option AObj)} (h : 2 * n + 3 ≤ m) (ht : WkO m tl tl') :
  WkO m (some ⟨45, 8, false, [nRow 0 y labs.length n]⟩ :: some ⟨9, 1, true, labs.map encS⟩ :: some ⟨42, 1, true, outRows 2 n n⟩ :: (inObs n f n ++ tl))
   (some ⟨45, 8, false, [nRow 0 y labs.length n]⟩ :: some ⟨9, 1, true, labs.map encS⟩ :: some ⟨42, 1, true, outRows 2 n n⟩ :: (inObs n f n ++ tl')) :=
 wkO_app (n := m) (a := tl) (b := tl') (l := nObs 0 y labs n f) (wf_nObs h) ht
theorem wkO_tl {m : Nat} {a b c d : AObj} {ex : List (Option AObj)} (ha : wfR m a.rows = true) (hb : wfR m b.rows = true) (hc : wfR m c.rows = true) (hd : wfR m d.rows = true) :
  WkO m (some a :: some b :: none :: none :: some c :: some d :: ex) [some a, some b, none, none, some c, some d] :=
 ⟨.inr ⟨rfl, fun ob e => by cases e; exact ha⟩, .inr ⟨rfl, fun ob e => by cases e; exact hb⟩, .inl rfl, .inl rfl, .inr ⟨rfl, fun ob e => by cases e; exact hc⟩, .inr ⟨rfl, fun ob e => by cases e; exact hd⟩, by cases ex <;> exact trivial⟩
theorem nG (n : Nat) (f : Nat → Nat → Bool) (tl : List (Option AObj)) (j : Nat) : (inObs n f n ++ tl)[2 * n + j]? = tl[j]? := appG (inObs_len _ _ _) tl j
theorem nG0 (n : Nat) (f : Nat → Nat → Bool) (tl : List (Option AObj)) : (inObs n f n ++ tl)[2 * n]? = tl[0]? := appG0 (inObs_len _ _ _) tl
theorem nS (n : Nat) (f : Nat → Nat → Bool) (tl : List (Option AObj)) (j : Nat) (x : Option AObj) : (inObs n f n ++ tl).set (2 * n + j) x = inObs n f n ++ tl.set j x := appS (inObs_len _ _ _) tl j x
theorem nS0 (n : Nat) (f : Nat → Nat → Bool) (tl : List (Option AObj)) (x : Option AObj) : (inObs n f n ++ tl).set (2 * n) x = inObs n f n ++ tl.set 0 x := appS0 (inObs_len _ _ _) tl x
theorem ACallV.n08 {F : FuncId} {args : List AV} {r0 : AV} {K : AV → List (Option AObj) → Prop} {y : Ex} {labs labs' : List ByteArray} {n : Nat} {f f' : Nat → Nat → Bool} {tl : List (Option AObj)}
  (h : CallE Tryd.prog F (.ptr 0 0 8 0 0 :: args) (nObs 0 y labs n f) r0 (nObs 0 y labs' n f')) (hwa : ∀ m, wfL m args = true) (hr : ∀ m, r0.wf m = true)
  (k : K r0 (some ⟨45, 8, false, [nRow 0 y labs'.length n]⟩ :: some ⟨9, 1, true, labs'.map encS⟩ :: some ⟨42, 1, true, outRows 2 n n⟩ :: (inObs n f' n ++ tl))) :
  ACallV Tryd.prog F (.ptr 0 0 8 0 0 :: args) (some ⟨45, 8, false, [nRow 0 y labs.length n]⟩ :: some ⟨9, 1, true, labs.map encS⟩ :: some ⟨42, 1, true, outRows 2 n n⟩ :: (inObs n f n ++ tl)) K := by
 have e : (nObs 0 y labs n f).length = 2 * n + 3 := nObs_len _ _ _ _ _
 refine ACallV.sub (o0 := nObs 0 y labs n f) (post := tl) h (by rw [nObs_len, nObs_len]) ?_ (wf_nObs (by omega)) (fun ob hb => wf_nObs (by omega) ob hb) (hr _) k
 rw [wfL, hwa, Bool.and_true, AV.wf, e]; exact decide_eq_true (by omega)
theorem ACallE.n08 {F : FuncId} {args : List AV} {r0 : AV} {K : AV → List (Option AObj) → Prop} {y : Ex} {labs labs' : List ByteArray} {n : Nat} {f f' : Nat → Nat → Bool} {tl : List (Option AObj)}
  (h : CallE Tryd.prog F (.ptr 0 0 8 0 0 :: args) (nObs 0 y labs n f) r0 (nObs 0 y labs' n f')) (hwa : ∀ m, wfL m args = true) (hr : ∀ m, r0.wf m = true)
  (k : K r0 (some ⟨45, 8, false, [nRow 0 y labs'.length n]⟩ :: some ⟨9, 1, true, labs'.map encS⟩ :: some ⟨42, 1, true, outRows 2 n n⟩ :: (inObs n f' n ++ tl))) :
  ACallE Tryd.prog F (.ptr 0 0 8 0 0 :: args) (some ⟨45, 8, false, [nRow 0 y labs.length n]⟩ :: some ⟨9, 1, true, labs.map encS⟩ :: some ⟨42, 1, true, outRows 2 n n⟩ :: (inObs n f n ++ tl)) K := by
 have e : (nObs 0 y labs n f).length = 2 * n + 3 := nObs_len _ _ _ _ _
 refine ACallE.sub (o0 := nObs 0 y labs n f) (post := tl) h (by rw [nObs_len, nObs_len]) ?_ (wf_nObs (by omega)) (fun ob hb => wf_nObs (by omega) ob hb) (hr _) k
 rw [wfL, hwa, Bool.and_true, AV.wf, e]; exact decide_eq_true (by omega)
theorem fst_fin {k : Int} {s : ByteArray} {l : List Ex} {b : Nat} (h1 : k ≠ 1) : fiAt (k == 2) (fun j => exEmpty (kid l j)) (fun j => fstB (kid l j) (bAt b l j)) l.length = fstB (.mk k s l) b := by
 funext q
 rw [Bool.eq_iff_iff, fiAt_iff, fstB_iff, Fst, if_neg h1]
 by_cases h2 : k = 2
 ·rw [if_pos h2, FstS_ex]
  simp only [h2, beq_self_eq_true, forall_const, fstB_iff]
 ·rw [if_neg h2, FstA_ex]
  simp only [beq_false_of_ne h2, Bool.false_eq_true, false_implies, true_and, fstB_iff]
theorem lst_fin {k : Int} {s : ByteArray} {l : List Ex} {b : Nat} (h1 : k ≠ 1) : laAt (k == 2) l.length (fun j => exEmpty (kid l j)) (fun j => lstB (kid l j) (bAt b l j)) l.length = lstB (.mk k s l) b := by
 funext q
 rw [Bool.eq_iff_iff, laAt_iff, lstB_iff, Lst, if_neg h1]
 by_cases h2 : k = 2
 ·rw [if_pos h2, LstS_ex]
  simp only [h2, beq_self_eq_true, forall_const, lstB_iff]
 ·rw [if_neg h2, LstA_ex]
  simp only [beq_false_of_ne h2, Bool.false_eq_true, false_implies, true_and, lstB_iff]
theorem fol_any {l : List Ex} {b p q : Nat} : (List.range l.length).any (fun j => folB (kid l j) (bAt b l j) p q) = true ↔ FolA l b (p + 1) (q + 1) := by
 rw [FolA_ex]
 simp only [List.any_eq_true, List.mem_range, folB_iff]
theorem fol_fin {k : Int} {s : ByteArray} {l : List Ex} {b : Nat} {f : Nat → Nat → Bool} (h1 : k ≠ 1) (h4 : k ≠ 4) (h5 : k ≠ 5) :
  (fun p q => fKids f b l l.length p q || foAt (k == 2) l.length (fun j => exEmpty (kid l j)) (fun j => fstB (kid l j) (bAt b l j)) (fun j => lstB (kid l j) (bAt b l j)) l.length p q) = fun p q => f p q || folB (.mk k s l) b p q := by
 funext p q
 rw [fKids, Bool.or_assoc]
 congr 1
 rw [Bool.eq_iff_iff, Bool.or_eq_true, fol_any, foAt_iff, folB_iff, Fol, if_neg h1]
 by_cases h2 : k = 2
 ·rw [if_pos h2, FolS_ex, FolA_ex]
  simp only [h2, beq_self_eq_true, true_and, fstB_iff, lstB_iff]
 ·rw [if_neg h2]
  simp only [beq_false_of_ne h2, Bool.false_eq_true, false_and, or_false, h4, h5, or_self]
theorem fol_fin2 {k : Int} {s : ByteArray} {l : List Ex} {b : Nat} {f : Nat → Nat → Bool} (h45 : k = 4 ∨ k = 5) :
  (fun p q => (fKids f b l l.length p q || foAt (k == 2) l.length (fun j => exEmpty (kid l j)) (fun j => fstB (kid l j) (bAt b l j)) (fun j => lstB (kid l j) (bAt b l j)) l.length p q) || (lstB (.mk k s l) b p && fstB (.mk k s l) b q)) = fun p q => f p q || folB (.mk k s l) b p q := by
 have h1 : k ≠ 1 := by omega
 have h2 : k ≠ 2 := by omega
 funext p q
 rw [fKids, Bool.or_assoc, Bool.or_assoc]
 congr 1
 rw [Bool.eq_iff_iff, Bool.or_eq_true, Bool.or_eq_true, Bool.and_eq_true, fol_any, foAt_iff, folB_iff, Fol, if_neg h1, if_neg h2, lstB_iff, fstB_iff, Lst, if_neg h1, if_neg h2, Fst, if_neg h1, if_neg h2]
 simp only [beq_false_of_ne h2, Bool.false_eq_true, false_and, false_or, h45, true_and]
theorem lbs_all {k : Int} {s : ByteArray} {labs : List ByteArray} {l : List Ex} (h1 : k ≠ 1) : lbs labs l l.length = labs ++ labE (.mk k s l) := by rw [lbs, List.take_length, labE_of h1]
set_option maxRecDepth 100000 in
set_option maxHeartbeats 8000000 in
theorem of_kids (k : Int) (h1 : k ≠ 1) (s : ByteArray) (l : List Ex) (hr : exRight (.mk k s l) = true) (hp : (exParts (.mk k s l)).length ≤ 1000000) (hz : ∀ z, z ∈ exParts (.mk k s l) → z.kids.length ≤ 1000000 ∧ z.label.size ≤ 1000000000000000) (H : ∀ x, x ∈ l → OfC x) : OfC (.mk k s l) := by
 intro y labs n f hn hb
 have f1 : (k == 1) = false := beq_false_of_ne h1
 have E := empty07_c (.mk k s l) hp hz
 rw [emptyB, hr, Bool.true_and] at E
 simp only [encE_eq, Ex.kind, Ex.label, Ex.kids] at E ⊢
 have hIl : (inObs n f n).length = 2 * n := inObs_len _ _ _
 have g1 := fun tl j => appG hIl tl j
 have g0 := fun tl => appG0 hIl tl
 have s1 := fun tl j x => appS hIl tl j x
 have s0 := fun tl x => appS0 hIl tl x
 (refine CallE.enter Tryd.func47 rfl (by kernel_rfl) (by kernel_rfl) rfl ?_; simp only [Tryd.ntmps47, Tryd.results47, List.length_cons, List.length_nil, Nat.reduceAdd, Nat.reduceSub, List.replicate_succ, List.replicate_zero, List.cons_append, List.nil_append])
 simp only [nObs, mObs, nRow, Nat.zero_add]
 repeat ((fail_if_success (with_reducible refine stopR (i := 2) ?_)); first | (with_reducible first | refine Stp.up ?_ | refine fun (K : AK) hK => ?_ | refine wK ?_ | refine wF ?_ | refine adrawG_k (by decide) ?_ | refine adrawG_e (by decide) ?_ | (refine hK _ ?_; clear hK K)) | simp only [go_sem, hIl, g0, g1, s0, s1, List.length_append] | with_reducible refine wA ?_ | clear hK K)
 refine awp_of2 (n := n) (em := exEmpty (.mk k s l)) (ax := .agg [.v (.int .i64 k), .v (.string s), .slc 3 (l.map encE) l.length]) hn rfl (by decide +kernel) (by kernel_rfl) (by decide +kernel) (by simp) rfl ?_ E ?_
 ·repeat (first | (with_reducible first | refine Stp.up ?_ | refine fun (K : AK) hK => ?_ | refine wK ?_ | refine wF ?_ | refine adrawG_k (by decide) ?_ | refine adrawG_e (by decide) ?_ | (refine hK _ ?_; clear hK K)) | simp only [go_sem, hIl, g0, g1, s0, s1, List.length_append] | with_reducible refine wA ?_ | clear hK K)
 ·repeat (first | (with_reducible first | refine Stp.up ?_ | refine fun (K : AK) hK => ?_ | refine wK ?_ | refine wF ?_ | refine adrawG_k (by decide) ?_ | refine adrawG_e (by decide) ?_ | (refine hK _ ?_; clear hK K)) | simp only [go_sem, hIl, g0, g1, s0, s1, List.length_append, slots3, slots2, List.getD_cons_succ, List.getD_cons_zero] | with_reducible refine wA ?_ | clear hK K)
  repeat ((fail_if_success (with_reducible refine stopR (i := 8) ?_)); first | (with_reducible first | refine Stp.up ?_ | refine fun (K : AK) hK => ?_ | refine wK ?_ | refine wF ?_ | refine adrawG_k (by decide) ?_ | refine adrawG_e (by decide) ?_ | (refine hK _ ?_; clear hK K)) | simp only [go_sem, f1, hIl, g0, g1, s0, s1, List.length_append] | with_reducible refine wA ?_ | clear hK K)
  refine awp_turn (turn_frc (k := 2 * n + 2 + 1 + 1 + 1 + 2) (i := 0) (j := 0) (id := 2 * n + 2 + 1 + 1 + 1) (len := n) (ob := ⟨77, 3, false, [[.vec (2 * n + 2 + 1 + 1 + 1) n, .vec (2 * n + 2 + 1 + 1 + 1 + 1) n, .v (.bool (exEmpty (.mk k s l)))]]⟩) (row := [.vec (2 * n + 2 + 1 + 1 + 1) n, .vec (2 * n + 2 + 1 + 1 + 1 + 1) n, .v (.bool (exEmpty (.mk k s l)))]) (ob2 := ⟨4, 1, true, rwB n (fun _ => false)⟩)
   (by omega) (by simp only [List.getElem?_cons_succ, g1]; rfl) (show 0 < 3 by decide) rfl rfl (by simp only [List.getElem?_cons_succ, g1]; rfl) rfl (rwB_len _ _)) (by kernel_rfl) ?_
  simp only [List.set_cons_succ, s1, List.set_cons_zero]
  refine awp_turn (turn_frc (k := 2 * n + 2 + 1 + 1 + 1 + 2) (i := 0) (j := 1) (id := 2 * n + 2 + 1 + 1 + 1 + 1) (len := n) (ob := ⟨77, 3, false, [[.slc 1 (rwB n (fun _ => false)) n, .vec (2 * n + 2 + 1 + 1 + 1 + 1) n, .v (.bool (exEmpty (.mk k s l)))]]⟩) (row := [.slc 1 (rwB n (fun _ => false)) n, .vec (2 * n + 2 + 1 + 1 + 1 + 1) n, .v (.bool (exEmpty (.mk k s l)))]) (ob2 := ⟨4, 1, true, rwB n (fun _ => false)⟩)
   (by omega) (by simp only [List.getElem?_cons_succ, g1]; rfl) (show 0 < 3 by decide) rfl rfl (by simp only [List.getElem?_cons_succ, g1]; rfl) rfl (rwB_len _ _)) (by kernel_rfl) ?_
  simp only [List.set_cons_succ, s1, List.set_cons_zero]
  repeat (first | (with_reducible first | refine Stp.up ?_ | refine fun (K : AK) hK => ?_ | refine wE ?_ | refine wK ?_ | refine wF ?_ | refine adrawG_k (by decide) ?_ | refine adrawG_e (by decide) ?_ | (refine hK _ ?_; clear hK K)) | simp only [go_sem, hIl, g0, g1, s0, s1, List.length_append] | with_reducible refine wA ?_ | clear hK K)
  clear g1 g0 s1 s0 hIl
  have hl24 : l.length ≤ 24 := by
   simp only [exRight, Bool.and_eq_true, decide_eq_true_eq] at hr
   have := kids_le (.mk k s l); simp only [Ex.kids] at this; omega
  have hlab : labs.length + (labEs l).length ≤ n := by rw [labE_of h1] at hb; exact hb
  refine awp_loopV (ι := Nat) 7 77 3 rfl (by decide) 62 (fun i => [(7, .vec (2 * n + 5 + 1 + 1 + 1) i), (8, .v (.int .i64 i)), (9, .undef)]) (fun i => some ⟨45, 8, false, [nRow 0 y (lbs labs l i).length n]⟩ :: some ⟨9, 1, true, (lbs labs l i).map encS⟩ :: some ⟨42, 1, true, outRows 2 n n⟩ :: (inObs n (fKids f labs.length l i) n ++ [some ⟨25, 3, false, [[.v (.int .i64 k), .v (.string s), .slc 3 (l.map encE) l.length]]⟩, some ⟨77, 3, false, [[.v (.slice none 0 0), .v (.slice none 0 0), .v (.bool false)]]⟩, none, none, some ⟨77, 3, false, [[.slc 1 (rwB n (fun _ => false)) n, .slc 1 (rwB n (fun _ => false)) n, .v (.bool (exEmpty (.mk k s l)))]]⟩, some ⟨77, 3, true, kRows n labs.length l i⟩])) (fun i => l.length - i) (fun i => i ≤ l.length) 0 (by omega) ?_ ?_
  ·refine wk_mk ?_ ?_ ?_
   ·simp only [List.length_cons, List.length_append, inObs_len, List.length_nil]
    simp only [go_sem, WkT, true_or, or_true, true_and, and_true, false_or, Bool.and_eq_true, decide_eq_true_eq, AV.v.injEq, Value.int.injEq]
    omega
   ·simp only [lbs_0, fKids_0, List.cons_append, List.append_assoc]
    exact wkO_nt (by simp only [List.length_cons, List.length_append, inObs_len, List.length_nil]; omega) (wkO_tl (by simp only [wfR, wfL, AV.wf, wf_encE, Bool.and_self]) rfl (by simp only [wfR, wfL, AV.wf, wf_rwB, Bool.and_self]) rfl)
   ·simp only [List.length_cons, List.length_append, inObs_len, List.length_nil]; omega
  ·intro i hi K hK
   repeat (first | (with_reducible first | refine Stp.up ?_ | refine fun (K : AK) hK => ?_ | refine wE ?_ | refine wK ?_ | refine wF ?_ | refine adrawG_k (by decide) ?_ | refine adrawG_e (by decide) ?_ | (refine hK _ ?_; clear hK K)) | simp only [go_sem, nG, nG0, nS, nS0, inObs_len, List.length_append] | with_reducible refine wA ?_ | clear hK K)
   refine AIf.part (fun h => ?_) (fun h => ?_)
   ·have hlt : i < l.length := by (try simp only [bne_iff_ne, ne_eq, bne_eq_false_iff_eq, beq_iff_eq, beq_eq_false_iff_ne, decide_eq_true_eq, decide_eq_false_iff_not, Bool.not_eq_eq_eq_not, Int.natCast_inj, Int.ofNat_lt, Int.ofNat_le] at h); omega
    have eW := wrap_succ (k := i) (by omega)
    have eG := getD_map encE l i [] hlt
    have HX := H l[i] (List.getElem_mem hlt) y (lbs labs l i) n (fKids f labs.length l i) hn (lbs_le hlt hlab)
    rw [lbs_len, lbs_succ hlt, ← kid_eq hlt, fKids_succ] at HX
    have hkr := kRows_succ n labs.length l i
    simp only [kRow] at hkr
    rw [kid_eq hlt] at HX hkr
    simp only [encE_eq] at HX eG
    repeat (first | (with_reducible first | refine Stp.up ?_ | refine fun (K : AK) hK => ?_ | refine wE ?_ | refine wK ?_ | refine wF ?_ | refine adrawG_k (by decide) ?_ | refine adrawG_e (by decide) ?_ | (refine hK _ ?_; clear hK K)) | simp only [go_sem, eG, nG, nG0, nS, nS0, inObs_len, List.length_append] | with_reducible refine wA ?_ | clear hK K)
    refine ACallV.n08 HX (fun m => by simp only [wfL, AV.wf, wf_encE, Bool.and_self]) (fun m => by simp only [AV.wf, wfL, wf_rwB, Bool.and_self]) ?_
    repeat (first | (with_reducible first | refine Stp.up ?_ | refine fun (K : AK) hK => ?_ | refine wE ?_ | refine wK ?_ | refine wF ?_ | refine adrawG_k (by decide) ?_ | refine adrawG_e (by decide) ?_ | (refine hK _ ?_; clear hK K)) | simp only [go_sem, eW, nG, nG0, nS, nS0, inObs_len, List.length_append, kRows_len] | with_reducible refine wA ?_ | clear hK K)
    rw [← hkr]
    refine LNext.mk (i + 1) (by omega) (by omega) (wk_mk ?_ ?_ ?_)
    ·simp only [List.length_cons, List.length_append, inObs_len, List.length_nil]
     simp only [go_sem, WkT, true_or, or_true, true_and, and_true, false_or, Bool.and_eq_true, decide_eq_true_eq, AV.v.injEq, Value.int.injEq]
     omega
    ·exact wkO_nt (by simp only [List.length_cons, List.length_append, inObs_len, List.length_nil]; omega) (wkO_tl (by simp only [wfR, wfL, AV.wf, wf_encE, Bool.and_self]) rfl (by simp only [wfR, wfL, AV.wf, wf_rwB, Bool.and_self]) (wf_kRows _ _ _ _ _))
    ·simp only [List.length_cons, List.length_append, inObs_len, List.length_nil]; omega
   ·have hie : i = l.length := by (try simp only [bne_iff_ne, ne_eq, bne_eq_false_iff_eq, beq_iff_eq, beq_eq_false_iff_ne, decide_eq_true_eq, decide_eq_false_iff_not, Bool.not_eq_eq_eq_not, Int.natCast_inj, Int.ofNat_lt, Int.ofNat_le] at h); omega
    simp only [hie]
    have hKR : ∀ j, j < l.length → (kRows n labs.length l l.length).getD j [] = [.slc 1 (rwB n ((fun j => fstB (kid l j) (bAt labs.length l j)) j)) n, .slc 1 (rwB n ((fun j => lstB (kid l j) (bAt labs.length l j)) j)) n, .v (.bool ((fun j => exEmpty (kid l j)) j))] := fun j hj => kRows_at hj
    obtain ⟨F, hF⟩ : ∃ F : Nat → Nat → Bool, F = fun j => fstB (kid l j) (bAt labs.length l j) := ⟨_, rfl⟩
    obtain ⟨L, hL⟩ : ∃ L : Nat → Nat → Bool, L = fun j => lstB (kid l j) (bAt labs.length l j) := ⟨_, rfl⟩
    obtain ⟨Em, hEm⟩ : ∃ Em : Nat → Bool, Em = fun j => exEmpty (kid l j) := ⟨_, rfl⟩
    rw [← hF, ← hL, ← hEm] at hKR
    have hKl := kRows_len n labs.length l l.length
    have hwK : ∀ m, wfR m (kRows n labs.length l l.length) = true := fun m => wf_kRows m _ _ _ _
    obtain ⟨KR, hKe⟩ : ∃ KR, KR = kRows n labs.length l l.length := ⟨_, rfl⟩
    rw [← hKe] at hKR hKl hwK ⊢
    obtain ⟨fa, hfa⟩ : ∃ fa, fa = fKids f labs.length l l.length := ⟨_, rfl⟩
    rw [← hfa]
    obtain ⟨sq, hsq⟩ : ∃ sq, sq = (k == 2) := ⟨_, rfl⟩
    have hsn : (k != 2) = !sq := by rw [hsq]; rfl
    have e0 : (fun _ => false) = fiAt sq Em F 0 := by funext q; simp [fiAt]
    have e0' : (fun _ => false) = laAt sq l.length Em L 0 := by funext q; simp [laAt]
    have ef0 : fa = fun p q => fa p q || foAt sq l.length Em F L 0 p q := by funext p q; simp [foAt]
    repeat (first | (with_reducible first | refine Stp.up ?_ | refine fun (K : AK) hK => ?_ | refine wE ?_ | refine wK ?_ | refine wF ?_ | refine adrawG_k (by decide) ?_ | refine adrawG_e (by decide) ?_ | (refine hK _ ?_; clear hK K)) | simp only [go_sem, nG, nG0, nS, nS0, inObs_len, List.length_append, hKl] | with_reducible refine wA ?_ | clear hK K)
    refine awp_loopO (ι := Nat) 80 (fun i => [(10, .v (.int .i64 i)), (11, .undef), (12, .undef), (13, .undef), (14, .undef), (15, .undef), (16, .undef)]) (fun i => some ⟨45, 8, false, [nRow 0 y (lbs labs l l.length).length n]⟩ :: some ⟨9, 1, true, (lbs labs l l.length).map encS⟩ :: some ⟨42, 1, true, outRows 2 n n⟩ :: (inObs n (fun p q => fa p q || foAt sq l.length Em F L i p q) n ++ [some ⟨25, 3, false, [[.v (.int .i64 k), .v (.string s), .slc 3 (l.map encE) l.length]]⟩, some ⟨77, 3, false, [[.v (.slice none 0 0), .v (.slice none 0 0), .v (.bool false)]]⟩, none, none, some ⟨77, 3, false, [[.slc 1 (rwB n (fiAt sq Em F i)) n, .slc 1 (rwB n (laAt sq l.length Em L i)) n, .v (.bool (exEmpty (.mk k s l)))]]⟩, some ⟨77, 3, true, KR⟩])) (fun i => l.length - i) (fun i => i ≤ l.length) 0 (by omega) ?_ ?_
    ·simp only [← e0, ← e0', ← ef0]
     refine wk_mk ?_ ?_ ?_
     ·simp only [List.length_cons, List.length_append, inObs_len, List.length_nil]
      simp only [go_sem, WkT, true_or, or_true, true_and, and_true, false_or, Bool.and_eq_true, decide_eq_true_eq, AV.v.injEq, Value.int.injEq, Value.bool.injEq]
      omega
     ·exact wkO_nt (by simp only [List.length_cons, List.length_append, inObs_len, List.length_nil]; omega) (wkO_tl (by simp only [wfR, wfL, AV.wf, wf_encE, Bool.and_self]) rfl (by simp only [wfR, wfL, AV.wf, wf_rwB, Bool.and_self]) (hwK _))
     ·simp only [List.length_cons, List.length_append, inObs_len, List.length_nil]; omega
    ·intro i hi K hK
     repeat (first | (with_reducible first | refine Stp.up ?_ | refine fun (K : AK) hK => ?_ | refine wE ?_ | refine wK ?_ | refine wF ?_ | refine adrawG_k (by decide) ?_ | refine adrawG_e (by decide) ?_ | (refine hK _ ?_; clear hK K)) | simp only [go_sem, nG, nG0, nS, nS0, inObs_len, List.length_append, hKl] | with_reducible refine wA ?_ | clear hK K)
     refine AIf.part (fun h => ?_) (fun h => ?_)
     ·have hlt : i < l.length := by (try simp only [bne_iff_ne, ne_eq, bne_eq_false_iff_eq, beq_iff_eq, beq_eq_false_iff_ne, decide_eq_true_eq, decide_eq_false_iff_not, Bool.not_eq_eq_eq_not, Int.natCast_inj, Int.ofNat_lt, Int.ofNat_le] at h); omega
      have eW := wrap_succ (k := i) (by omega)
      have eKi := hKR i hlt
      repeat (first | (with_reducible first | refine Stp.up ?_ | refine fun (K : AK) hK => ?_ | refine wE ?_ | refine wK ?_ | refine wF ?_ | refine adrawG_k (by decide) ?_ | refine adrawG_e (by decide) ?_ | (refine hK _ ?_; clear hK K)) | simp only [go_sem, nG, nG0, nS, nS0, inObs_len, List.length_append, hKl] | with_reducible refine wA ?_ | clear hK K)
      refine awp_loopK (ι := Nat) 86 (fun j => [(11, .v (.bool (ahAt sq Em i j))), (13, .v (.int .i64 j))]) (fun j => i - j) (fun j => j ≤ i) 0 (by omega) ?_ ?_
      ·have e3 : ahAt sq Em i 0 = true := by simp [ahAt]
       rw [e3]
       refine wk_mk ?_ ?_ ?_
       ·simp only [List.length_cons, List.length_append, inObs_len, List.length_nil]
        simp only [go_sem, WkT, true_or, or_true, true_and, and_true, false_or, Bool.and_eq_true, decide_eq_true_eq, AV.v.injEq, Value.int.injEq, Value.bool.injEq]
        omega
       ·exact wkO_nt (by simp only [List.length_cons, List.length_append, inObs_len, List.length_nil]; omega) (wkO_tl (by simp only [wfR, wfL, AV.wf, wf_encE, Bool.and_self]) rfl (by simp only [wfR, wfL, AV.wf, wf_rwB, Bool.and_self]) (hwK _))
       ·simp only [List.length_cons, List.length_append, inObs_len, List.length_nil]; omega
      ·intro j hj K hK
       repeat (first | (with_reducible first | refine Stp.up ?_ | refine fun (K : AK) hK => ?_ | refine wE ?_ | refine wK ?_ | refine wF ?_ | refine adrawG_k (by decide) ?_ | refine adrawG_e (by decide) ?_ | (refine hK _ ?_; clear hK K)) | simp only [go_sem, nG, nG0, nS, nS0, inObs_len, List.length_append, hKl] | with_reducible refine wA ?_ | clear hK K)
       refine AIf.part (fun hc => ?_) (fun hc => ?_)
       ·have hji : j < i := by (try simp only [bne_iff_ne, ne_eq, bne_eq_false_iff_eq, beq_iff_eq, beq_eq_false_iff_ne, decide_eq_true_eq, decide_eq_false_iff_not, Bool.not_eq_eq_eq_not, Int.natCast_inj, Int.ofNat_lt, Int.ofNat_le] at hc); omega
        have eV := wrap_succ (k := j) (by omega)
        have eKj := hKR j (by omega)
        have eA := ahAt_succ sq Em i j
        rcases Bool.eq_false_or_eq_true (ahAt sq Em i j) with ha | ha
        rotate_left 1
        ·rw [ha, Bool.false_and] at eA
         repeat (first | (with_reducible first | refine Stp.up ?_ | refine fun (K : AK) hK => ?_ | refine wE ?_ | refine wK ?_ | refine wF ?_ | refine adrawG_k (by decide) ?_ | refine adrawG_e (by decide) ?_ | (refine hK _ ?_; clear hK K)) | simp only [go_sem, nG, nG0, nS, nS0, inObs_len, List.length_append, ha, eV, Go.undef] | with_reducible refine wA ?_ | clear hK K)
         refine LNext.mk (j + 1) (by omega) (by omega) ?_
         rw [eA]
         refine wk_mk ?_ ?_ ?_
         ·simp only [List.length_cons, List.length_append, inObs_len, List.length_nil]
          simp only [go_sem, WkT, true_or, or_true, true_and, and_true, false_or, Bool.and_eq_true, decide_eq_true_eq, AV.v.injEq, Value.int.injEq, Value.bool.injEq]
          omega
         ·exact wkO_nt (by simp only [List.length_cons, List.length_append, inObs_len, List.length_nil]; omega) (wkO_tl (by simp only [wfR, wfL, AV.wf, wf_encE, Bool.and_self]) rfl (by simp only [wfR, wfL, AV.wf, wf_rwB, Bool.and_self]) (hwK _))
         ·simp only [List.length_cons, List.length_append, inObs_len, List.length_nil]; omega
        ·rw [ha, Bool.true_and] at eA
         rcases Bool.eq_false_or_eq_true sq with hs | hs
         ·rw [hs] at hsn
          rw [show (!sq || Em j) = Em j by rw [hs]; rfl] at eA
          simp only [Bool.not_true] at hsn
          repeat (first | (with_reducible first | refine Stp.up ?_ | refine fun (K : AK) hK => ?_ | refine wE ?_ | refine wK ?_ | refine wF ?_ | refine adrawG_k (by decide) ?_ | refine adrawG_e (by decide) ?_ | (refine hK _ ?_; clear hK K)) | simp only [go_sem, nG, nG0, nS, nS0, inObs_len, List.length_append, ha, hsn, hKl, eKj, eV, Go.undef] | with_reducible refine wA ?_ | clear hK K)
          refine LNext.mk (j + 1) (by omega) (by omega) ?_
          rw [eA]
          refine wk_mk ?_ ?_ ?_
          ·simp only [List.length_cons, List.length_append, inObs_len, List.length_nil]
           simp only [go_sem, WkT, true_or, or_true, true_and, and_true, false_or, Bool.and_eq_true, decide_eq_true_eq, AV.v.injEq, Value.int.injEq, Value.bool.injEq]
           omega
          ·exact wkO_nt (by simp only [List.length_cons, List.length_append, inObs_len, List.length_nil]; omega) (wkO_tl (by simp only [wfR, wfL, AV.wf, wf_encE, Bool.and_self]) rfl (by simp only [wfR, wfL, AV.wf, wf_rwB, Bool.and_self]) (hwK _))
          ·simp only [List.length_cons, List.length_append, inObs_len, List.length_nil]; omega
         ·rw [hs] at hsn
          rw [show (!sq || Em j) = true by rw [hs]; rfl] at eA
          simp only [Bool.not_false] at hsn
          repeat (first | (with_reducible first | refine Stp.up ?_ | refine fun (K : AK) hK => ?_ | refine wE ?_ | refine wK ?_ | refine wF ?_ | refine adrawG_k (by decide) ?_ | refine adrawG_e (by decide) ?_ | (refine hK _ ?_; clear hK K)) | simp only [go_sem, nG, nG0, nS, nS0, inObs_len, List.length_append, ha, hsn, hKl, eKj, eV, Go.undef] | with_reducible refine wA ?_ | clear hK K)
          refine LNext.mk (j + 1) (by omega) (by omega) ?_
          rw [eA]
          refine wk_mk ?_ ?_ ?_
          ·simp only [List.length_cons, List.length_append, inObs_len, List.length_nil]
           simp only [go_sem, WkT, true_or, or_true, true_and, and_true, false_or, Bool.and_eq_true, decide_eq_true_eq, AV.v.injEq, Value.int.injEq, Value.bool.injEq]
           omega
          ·exact wkO_nt (by simp only [List.length_cons, List.length_append, inObs_len, List.length_nil]; omega) (wkO_tl (by simp only [wfR, wfL, AV.wf, wf_encE, Bool.and_self]) rfl (by simp only [wfR, wfL, AV.wf, wf_rwB, Bool.and_self]) (hwK _))
          ·simp only [List.length_cons, List.length_append, inObs_len, List.length_nil]; omega
       ·have hje : j = i := by (try simp only [bne_iff_ne, ne_eq, bne_eq_false_iff_eq, beq_iff_eq, beq_eq_false_iff_ne, decide_eq_true_eq, decide_eq_false_iff_not, Bool.not_eq_eq_eq_not, Int.natCast_inj, Int.ofNat_lt, Int.ofNat_le] at hc); omega
        simp only [hje]
        repeat (first | (with_reducible first | refine Stp.up ?_ | refine fun (K : AK) hK => ?_ | refine wE ?_ | refine wK ?_ | refine wF ?_ | refine adrawG_k (by decide) ?_ | refine adrawG_e (by decide) ?_ | (refine hK _ ?_; clear hK K)) | simp only [go_sem, nG, nG0, nS, nS0, inObs_len, List.length_append, eW] | with_reducible refine wA ?_ | clear hK K)
        refine awp_loopK (ι := Nat) 106 (fun j => [(12, .v (.bool (bhAt sq Em i j))), (14, .v (.int .i64 j))]) (fun j => l.length - j) (fun j => i + 1 ≤ j ∧ j ≤ l.length) (i + 1) ⟨by omega, by omega⟩ ?_ ?_
        ·rw [bhAt_beg]
         refine wk_mk ?_ ?_ ?_
         ·simp only [List.length_cons, List.length_append, inObs_len, List.length_nil]
          simp only [go_sem, WkT, true_or, or_true, true_and, and_true, false_or, Bool.and_eq_true, decide_eq_true_eq, AV.v.injEq, Value.int.injEq, Value.bool.injEq]
          omega
         ·exact wkO_nt (by simp only [List.length_cons, List.length_append, inObs_len, List.length_nil]; omega) (wkO_tl (by simp only [wfR, wfL, AV.wf, wf_encE, Bool.and_self]) rfl (by simp only [wfR, wfL, AV.wf, wf_rwB, Bool.and_self]) (hwK _))
         ·simp only [List.length_cons, List.length_append, inObs_len, List.length_nil]; omega
        ·rintro j ⟨hj1, hj2⟩ K hK
         repeat (first | (with_reducible first | refine Stp.up ?_ | refine fun (K : AK) hK => ?_ | refine wE ?_ | refine wK ?_ | refine wF ?_ | refine adrawG_k (by decide) ?_ | refine adrawG_e (by decide) ?_ | (refine hK _ ?_; clear hK K)) | simp only [go_sem, nG, nG0, nS, nS0, inObs_len, List.length_append, hKl] | with_reducible refine wA ?_ | clear hK K)
         refine AIf.part (fun hc => ?_) (fun hc => ?_)
         ·have hji : j < l.length := by (try simp only [bne_iff_ne, ne_eq, bne_eq_false_iff_eq, beq_iff_eq, beq_eq_false_iff_ne, decide_eq_true_eq, decide_eq_false_iff_not, Bool.not_eq_eq_eq_not, Int.natCast_inj, Int.ofNat_lt, Int.ofNat_le] at hc); omega
          have eV := wrap_succ (k := j) (by omega)
          have eKj := hKR j (by omega)
          have eA := bhAt_succ sq Em (i := i) (k := j) (by omega)
          rcases Bool.eq_false_or_eq_true (bhAt sq Em i j) with ha | ha
          rotate_left 1
          ·rw [ha, Bool.false_and] at eA
           repeat (first | (with_reducible first | refine Stp.up ?_ | refine fun (K : AK) hK => ?_ | refine wE ?_ | refine wK ?_ | refine wF ?_ | refine adrawG_k (by decide) ?_ | refine adrawG_e (by decide) ?_ | (refine hK _ ?_; clear hK K)) | simp only [go_sem, nG, nG0, nS, nS0, inObs_len, List.length_append, ha, eV, Go.undef] | with_reducible refine wA ?_ | clear hK K)
           refine LNext.mk (j + 1) (by omega) (by omega) ?_
           rw [eA]
           refine wk_mk ?_ ?_ ?_
           ·simp only [List.length_cons, List.length_append, inObs_len, List.length_nil]
            simp only [go_sem, WkT, true_or, or_true, true_and, and_true, false_or, Bool.and_eq_true, decide_eq_true_eq, AV.v.injEq, Value.int.injEq, Value.bool.injEq]
            omega
           ·exact wkO_nt (by simp only [List.length_cons, List.length_append, inObs_len, List.length_nil]; omega) (wkO_tl (by simp only [wfR, wfL, AV.wf, wf_encE, Bool.and_self]) rfl (by simp only [wfR, wfL, AV.wf, wf_rwB, Bool.and_self]) (hwK _))
           ·simp only [List.length_cons, List.length_append, inObs_len, List.length_nil]; omega
          ·rw [ha, Bool.true_and] at eA
           rcases Bool.eq_false_or_eq_true sq with hs | hs
           ·rw [hs] at hsn
            rw [show (!sq || Em j) = Em j by rw [hs]; rfl] at eA
            simp only [Bool.not_true] at hsn
            repeat (first | (with_reducible first | refine Stp.up ?_ | refine fun (K : AK) hK => ?_ | refine wE ?_ | refine wK ?_ | refine wF ?_ | refine adrawG_k (by decide) ?_ | refine adrawG_e (by decide) ?_ | (refine hK _ ?_; clear hK K)) | simp only [go_sem, nG, nG0, nS, nS0, inObs_len, List.length_append, ha, hsn, hKl, eKj, eV, Go.undef] | with_reducible refine wA ?_ | clear hK K)
            refine LNext.mk (j + 1) (by omega) (by omega) ?_
            rw [eA]
            refine wk_mk ?_ ?_ ?_
            ·simp only [List.length_cons, List.length_append, inObs_len, List.length_nil]
             simp only [go_sem, WkT, true_or, or_true, true_and, and_true, false_or, Bool.and_eq_true, decide_eq_true_eq, AV.v.injEq, Value.int.injEq, Value.bool.injEq]
             omega
            ·exact wkO_nt (by simp only [List.length_cons, List.length_append, inObs_len, List.length_nil]; omega) (wkO_tl (by simp only [wfR, wfL, AV.wf, wf_encE, Bool.and_self]) rfl (by simp only [wfR, wfL, AV.wf, wf_rwB, Bool.and_self]) (hwK _))
            ·simp only [List.length_cons, List.length_append, inObs_len, List.length_nil]; omega
           ·rw [hs] at hsn
            rw [show (!sq || Em j) = true by rw [hs]; rfl] at eA
            simp only [Bool.not_false] at hsn
            repeat (first | (with_reducible first | refine Stp.up ?_ | refine fun (K : AK) hK => ?_ | refine wE ?_ | refine wK ?_ | refine wF ?_ | refine adrawG_k (by decide) ?_ | refine adrawG_e (by decide) ?_ | (refine hK _ ?_; clear hK K)) | simp only [go_sem, nG, nG0, nS, nS0, inObs_len, List.length_append, ha, hsn, hKl, eKj, eV, Go.undef] | with_reducible refine wA ?_ | clear hK K)
            refine LNext.mk (j + 1) (by omega) (by omega) ?_
            rw [eA]
            refine wk_mk ?_ ?_ ?_
            ·simp only [List.length_cons, List.length_append, inObs_len, List.length_nil]
             simp only [go_sem, WkT, true_or, or_true, true_and, and_true, false_or, Bool.and_eq_true, decide_eq_true_eq, AV.v.injEq, Value.int.injEq, Value.bool.injEq]
             omega
            ·exact wkO_nt (by simp only [List.length_cons, List.length_append, inObs_len, List.length_nil]; omega) (wkO_tl (by simp only [wfR, wfL, AV.wf, wf_encE, Bool.and_self]) rfl (by simp only [wfR, wfL, AV.wf, wf_rwB, Bool.and_self]) (hwK _))
            ·simp only [List.length_cons, List.length_append, inObs_len, List.length_nil]; omega
         ·have hje2 : j = l.length := by (try simp only [bne_iff_ne, ne_eq, bne_eq_false_iff_eq, beq_iff_eq, beq_eq_false_iff_ne, decide_eq_true_eq, decide_eq_false_iff_not, Bool.not_eq_eq_eq_not, Int.natCast_inj, Int.ofNat_lt, Int.ofNat_le] at hc); omega
          simp only [hje2]
          have C1 := either08_c n (fiAt sq Em F i) (F i) hn
          have C2 := either08_c n (laAt sq l.length Em L i) (L i) hn
          have eF1 : fiAt sq Em F (i + 1) = fun q => fiAt sq Em F i q || (ahAt sq Em i i && F i q) := by funext q; exact fiAt_succ sq Em F i q
          have eL1 : laAt sq l.length Em L (i + 1) = fun q => laAt sq l.length Em L i q || (bhAt sq Em i l.length && L i q) := by funext q; exact laAt_succ sq l.length Em L i q
          have eg0 : (fun p q => (fa p q || foAt sq l.length Em F L i p q) || lnAt sq Em F L i (i + 1) p q) = fun p q => fa p q || foAt sq l.length Em F L i p q := by funext p q; rw [lnAt_beg, Bool.or_false]
          have eX : ∀ j, i < j → j ≤ l.length → (j = l.length ∨ btAt sq Em i j = false) → (fun p q => (fa p q || foAt sq l.length Em F L i p q) || lnAt sq Em F L i j p q) = fun p q => fa p q || foAt sq l.length Em F L (i + 1) p q := fun j h1 h2 h3 => by
           funext p q
           rw [foAt_succ, ← Bool.or_assoc]
           rcases h3 with e | e
           ·rw [e]
           ·rw [ln_stop sq Em F L h1 e h2]
          have hbs : (k == 2) = btAt sq Em i (i + 1) := by rw [btAt_beg]; exact hsq.symm
          rcases Bool.eq_false_or_eq_true (ahAt sq Em i i) with hA | hA <;> rcases Bool.eq_false_or_eq_true (bhAt sq Em i l.length) with hB | hB
          all_goals
           simp only [hA, hB, Bool.true_and, Bool.false_and, Bool.or_false] at eF1 eL1
           repeat (first | (with_reducible first | refine Stp.up ?_ | refine fun (K : AK) hK => ?_ | refine wE ?_ | refine wK ?_ | refine wF ?_ | refine adrawG_k (by decide) ?_ | refine adrawG_e (by decide) ?_ | (refine hK _ ?_; clear hK K)) | simp only [go_sem, nG, nG0, nS, nS0, inObs_len, List.length_append, hA, hB, hKl, eKi] | with_reducible refine wA ?_ | clear hK K)
           (try ((first | (refine ACallS.one C1 ?_) | (refine ACallS.one C2 ?_)); repeat (first | (with_reducible first | refine Stp.up ?_ | refine fun (K : AK) hK => ?_ | refine wE ?_ | refine wK ?_ | refine wF ?_ | refine adrawG_k (by decide) ?_ | refine adrawG_e (by decide) ?_ | (refine hK _ ?_; clear hK K)) | simp only [go_sem, nG, nG0, nS, nS0, inObs_len, List.length_append, hA, hB, hKl, eKi, eW] | with_reducible refine wA ?_ | clear hK K)))
           (try ((refine ACallS.one C2 ?_); repeat (first | (with_reducible first | refine Stp.up ?_ | refine fun (K : AK) hK => ?_ | refine wE ?_ | refine wK ?_ | refine wF ?_ | refine adrawG_k (by decide) ?_ | refine adrawG_e (by decide) ?_ | (refine hK _ ?_; clear hK K)) | simp only [go_sem, nG, nG0, nS, nS0, inObs_len, List.length_append, hA, hB, hKl, eKi, eW] | with_reducible refine wA ?_ | clear hK K)))
           refine awp_loopO (ι := Nat) 150 (fun j => [(15, .v (.bool (btAt sq Em i j))), (16, .v (.int .i64 j))]) (fun j => some ⟨45, 8, false, [nRow 0 y (lbs labs l l.length).length n]⟩ :: some ⟨9, 1, true, (lbs labs l l.length).map encS⟩ :: some ⟨42, 1, true, outRows 2 n n⟩ :: (inObs n (fun p q => (fa p q || foAt sq l.length Em F L i p q) || lnAt sq Em F L i j p q) n ++ [some ⟨25, 3, false, [[.v (.int .i64 k), .v (.string s), .slc 3 (l.map encE) l.length]]⟩, some ⟨77, 3, false, [[.v (.slice none 0 0), .v (.slice none 0 0), .v (.bool false)]]⟩, none, none, some ⟨77, 3, false, [[.slc 1 (rwB n (fiAt sq Em F (i + 1))) n, .slc 1 (rwB n (laAt sq l.length Em L (i + 1))) n, .v (.bool (exEmpty (.mk k s l)))]]⟩, some ⟨77, 3, true, KR⟩])) (fun j => l.length - j) (fun j => i + 1 ≤ j ∧ j ≤ l.length) (i + 1) ⟨by omega, by omega⟩ ?_ ?_
           ·rw [eg0, eF1, eL1, ← hbs]
            refine wk_mk ?_ ?_ ?_
            ·simp only [List.length_cons, List.length_append, inObs_len, List.length_nil]
             simp only [go_sem, WkT, true_or, or_true, true_and, and_true, false_or, Bool.and_eq_true, decide_eq_true_eq, AV.v.injEq, Value.int.injEq, Value.bool.injEq]
             omega
            ·exact wkO_nt (by simp only [List.length_cons, List.length_append, inObs_len, List.length_nil]; omega) (wkO_tl (by simp only [wfR, wfL, AV.wf, wf_encE, Bool.and_self]) rfl (by simp only [wfR, wfL, AV.wf, wf_rwB, Bool.and_self]) (hwK _))
            ·simp only [List.length_cons, List.length_append, inObs_len, List.length_nil]; omega
           ·rintro j ⟨hj1, hj2⟩ K hK
            rcases Bool.eq_false_or_eq_true (decide ((j : Int) < (l.length : Int))) with hc | hc
            ·have hji : j < l.length := by (try simp only [bne_iff_ne, ne_eq, bne_eq_false_iff_eq, beq_iff_eq, beq_eq_false_iff_ne, decide_eq_true_eq, decide_eq_false_iff_not, Bool.not_eq_eq_eq_not, Int.natCast_inj, Int.ofNat_lt, Int.ofNat_le] at hc); omega
             rcases Bool.eq_false_or_eq_true (btAt sq Em i j) with hbt | hbt
             ·have eV := wrap_succ (k := j) (by omega)
              have eKj := hKR j hji
              have eBt := btAt_succ sq Em (i := i) (k := j) (by omega)
              rw [hbt, Bool.true_and] at eBt
              have eg : (fun p q => ((fa p q || foAt sq l.length Em F L i p q) || lnAt sq Em F L i j p q) || (L i p && F j q)) = fun p q => (fa p q || foAt sq l.length Em F L i p q) || lnAt sq Em F L i (j + 1) p q := by
               funext p q; rw [lnAt_succ sq Em F L (by omega), hbt, Bool.true_and, Bool.or_assoc _ (lnAt sq Em F L i j p q)]
              have LK := link08_e y (lbs labs l l.length) n hn (fun p q => (fa p q || foAt sq l.length Em F L i p q) || lnAt sq Em F L i j p q) (L i) (F j)
              rw [eg] at LK
              repeat ((fail_if_success (with_reducible refine stopR (i := 34) ?_)); first | (with_reducible first | refine Stp.up ?_ | refine fun (K : AK) hK => ?_ | refine wK ?_ | refine wF ?_ | refine adrawG_k (by decide) ?_ | refine adrawG_e (by decide) ?_ | (refine hK _ ?_; clear hK K)) | simp only [go_sem, nG, nG0, nS, nS0, inObs_len, List.length_append, hc, hbt, hKl, Go.undef] | with_reducible refine wA ?_ | clear hK K)
              refine awp_drawG [11] [] (by decide +kernel) (by kernel_rfl) ?_
              repeat (first | (with_reducible first | refine Stp.up ?_ | refine fun (K : AK) hK => ?_ | refine wK ?_ | refine wF ?_ | refine adrawG_k (by decide) ?_ | refine adrawG_e (by decide) ?_ | (refine hK _ ?_; clear hK K)) | simp only [go_sem, nG, nG0, nS, nS0, inObs_len, List.length_append, hc, hbt, hKl, eKi, eKj, Go.undef] | with_reducible refine wA ?_ | clear hK K)
              refine ACallE.n08 LK (fun m => by simp only [wfL, AV.wf, wf_rwB, Bool.and_self]) (fun m => rfl) ?_
              repeat (first | (with_reducible first | refine Stp.up ?_ | refine fun (K : AK) hK => ?_ | refine wE ?_ | refine wK ?_ | refine wF ?_ | refine adrawG_k (by decide) ?_ | refine adrawG_e (by decide) ?_ | (refine hK _ ?_; clear hK K)) | simp only [go_sem, nG, nG0, nS, nS0, inObs_len, List.length_append, hKl, eKj, eV, Go.undef] | with_reducible refine wA ?_ | clear hK K)
              rw [← eBt]
              refine LNext.mk (j + 1) ⟨by omega, by omega⟩ (by omega) ?_
              refine wk_mk ?_ ?_ ?_
              ·simp only [List.length_cons, List.length_append, inObs_len, List.length_nil]
               simp only [go_sem, WkT, true_or, or_true, true_and, and_true, false_or, Bool.and_eq_true, decide_eq_true_eq, AV.v.injEq, Value.int.injEq, Value.bool.injEq]
               omega
              ·exact wkO_nt (by simp only [List.length_cons, List.length_append, inObs_len, List.length_nil]; omega) (wkO_tl (by simp only [wfR, wfL, AV.wf, wf_encE, Bool.and_self]) rfl (by simp only [wfR, wfL, AV.wf, wf_rwB, Bool.and_self]) (hwK _))
              ·simp only [List.length_cons, List.length_append, inObs_len, List.length_nil]; omega
             ·repeat (first | (with_reducible first | refine Stp.up ?_ | refine fun (K : AK) hK => ?_ | refine wE ?_ | refine wK ?_ | refine wF ?_ | refine adrawG_k (by decide) ?_ | refine adrawG_e (by decide) ?_ | (refine hK _ ?_; clear hK K)) | simp only [go_sem, nG, nG0, nS, nS0, inObs_len, List.length_append, hc, hbt, hKl, Go.undef, eW] | with_reducible refine wA ?_ | clear hK K)
              rw [eX j (by omega) hj2 (.inr hbt)]
              refine LNext.mk (i + 1) (by omega) (by omega) ?_
              refine wk_mk ?_ ?_ ?_
              ·simp only [List.length_cons, List.length_append, inObs_len, List.length_nil]
               simp only [go_sem, WkT, true_or, or_true, true_and, and_true, false_or, Bool.and_eq_true, decide_eq_true_eq, AV.v.injEq, Value.int.injEq, Value.bool.injEq]
               omega
              ·exact wkO_nt (by simp only [List.length_cons, List.length_append, inObs_len, List.length_nil]; omega) (wkO_tl (by simp only [wfR, wfL, AV.wf, wf_encE, Bool.and_self]) rfl (by simp only [wfR, wfL, AV.wf, wf_rwB, Bool.and_self]) (hwK _))
              ·simp only [List.length_cons, List.length_append, inObs_len, List.length_nil]; omega
            ·repeat (first | (with_reducible first | refine Stp.up ?_ | refine fun (K : AK) hK => ?_ | refine wE ?_ | refine wK ?_ | refine wF ?_ | refine adrawG_k (by decide) ?_ | refine adrawG_e (by decide) ?_ | (refine hK _ ?_; clear hK K)) | simp only [go_sem, nG, nG0, nS, nS0, inObs_len, List.length_append, hc, hKl, Go.undef, eW] | with_reducible refine wA ?_ | clear hK K)
             rw [eX j (by omega) hj2 (.inl (by (try simp only [bne_iff_ne, ne_eq, bne_eq_false_iff_eq, beq_iff_eq, beq_eq_false_iff_ne, decide_eq_true_eq, decide_eq_false_iff_not, Bool.not_eq_eq_eq_not, Int.natCast_inj, Int.ofNat_lt, Int.ofNat_le] at hc); omega))]
             refine LNext.mk (i + 1) (by omega) (by omega) ?_
             refine wk_mk ?_ ?_ ?_
             ·simp only [List.length_cons, List.length_append, inObs_len, List.length_nil]
              simp only [go_sem, WkT, true_or, or_true, true_and, and_true, false_or, Bool.and_eq_true, decide_eq_true_eq, AV.v.injEq, Value.int.injEq, Value.bool.injEq]
              omega
             ·exact wkO_nt (by simp only [List.length_cons, List.length_append, inObs_len, List.length_nil]; omega) (wkO_tl (by simp only [wfR, wfL, AV.wf, wf_encE, Bool.and_self]) rfl (by simp only [wfR, wfL, AV.wf, wf_rwB, Bool.and_self]) (hwK _))
             ·simp only [List.length_cons, List.length_append, inObs_len, List.length_nil]; omega
     ·have hie2 : i = l.length := by (try simp only [bne_iff_ne, ne_eq, bne_eq_false_iff_eq, beq_iff_eq, beq_eq_false_iff_ne, decide_eq_true_eq, decide_eq_false_iff_not, Bool.not_eq_eq_eq_not, Int.natCast_inj, Int.ofNat_lt, Int.ofNat_le] at h); omega
      simp only [hie2]
      have hFI : fiAt sq Em F l.length = fstB (.mk k s l) labs.length := by rw [hsq, hEm, hF]; exact fst_fin h1
      have hLI : laAt sq l.length Em L l.length = lstB (.mk k s l) labs.length := by rw [hsq, hEm, hL]; exact lst_fin h1
      rw [hFI, hLI]
      have elb : lbs labs l l.length = labs ++ labE (.mk k s l) := lbs_all h1
      have e3 : labs.length + (labE (.mk k s l)).length = (lbs labs l l.length).length := by rw [elb, List.length_append]
      by_cases h45 : k = 4 ∨ k = 5
      ·have hM : (fun p q => (fa p q || foAt sq l.length Em F L l.length p q) || (lstB (.mk k s l) labs.length p && fstB (.mk k s l) labs.length q)) = fun p q => f p q || folB (.mk k s l) labs.length p q := by
        rw [hfa, hsq, hEm, hF, hL]; exact fol_fin2 h45
       have LK := link08_e y (lbs labs l l.length) n hn (fun p q => fa p q || foAt sq l.length Em F L l.length p q) (lstB (.mk k s l) labs.length) (fstB (.mk k s l) labs.length)
       rw [hM] at LK
       rcases h45 with h4 | h5
       ·have c4 : (k == 4) = true := by rw [h4]; rfl
        repeat (first | (with_reducible first | refine Stp.up ?_ | refine fun (K : AK) hK => ?_ | refine wE ?_ | refine wK ?_ | refine wF ?_ | refine adrawG_k (by decide) ?_ | refine adrawG_e (by decide) ?_ | (refine hK _ ?_; clear hK K)) | simp only [go_sem, nG, nG0, nS, nS0, inObs_len, List.length_append, c4, Go.undef] | with_reducible refine wA ?_ | clear hK K)
        refine ACallV.n08 LK (fun m => by simp only [wfL, AV.wf, wf_rwB, Bool.and_self]) (fun m => rfl) ?_
        repeat (first | (with_reducible first | refine Stp.up ?_ | refine fun (K : AK) hK => ?_ | refine wE ?_ | refine wK ?_ | refine wF ?_ | refine adrawG_k (by decide) ?_ | refine adrawG_e (by decide) ?_ | (refine hK _ ?_; clear hK K)) | simp only [go_sem, nG, nG0, nS, nS0, inObs_len, List.length_append] | with_reducible refine wA ?_ | clear hK K)
        rw [e3, ← elb]
        exact afw_n (by omega) (fun m => by simp only [AV.wf, wfL, wf_rwB, Bool.and_self])
       ·have c4 : (k == 4) = false := by rw [h5]; rfl
        have c5 : (k == 5) = true := by rw [h5]; rfl
        repeat (first | (with_reducible first | refine Stp.up ?_ | refine fun (K : AK) hK => ?_ | refine wE ?_ | refine wK ?_ | refine wF ?_ | refine adrawG_k (by decide) ?_ | refine adrawG_e (by decide) ?_ | (refine hK _ ?_; clear hK K)) | simp only [go_sem, nG, nG0, nS, nS0, inObs_len, List.length_append, c4, c5, Go.undef] | with_reducible refine wA ?_ | clear hK K)
        refine ACallV.n08 LK (fun m => by simp only [wfL, AV.wf, wf_rwB, Bool.and_self]) (fun m => rfl) ?_
        repeat (first | (with_reducible first | refine Stp.up ?_ | refine fun (K : AK) hK => ?_ | refine wE ?_ | refine wK ?_ | refine wF ?_ | refine adrawG_k (by decide) ?_ | refine adrawG_e (by decide) ?_ | (refine hK _ ?_; clear hK K)) | simp only [go_sem, nG, nG0, nS, nS0, inObs_len, List.length_append] | with_reducible refine wA ?_ | clear hK K)
        rw [e3, ← elb]
        exact afw_n (by omega) (fun m => by simp only [AV.wf, wfL, wf_rwB, Bool.and_self])
      ·have c4 : (k == 4) = false := beq_false_of_ne (fun e => h45 (.inl e))
       have c5 : (k == 5) = false := beq_false_of_ne (fun e => h45 (.inr e))
       have hM : (fun p q => fa p q || foAt sq l.length Em F L l.length p q) = fun p q => f p q || folB (.mk k s l) labs.length p q := by
        rw [hfa, hsq, hEm, hF, hL]; exact fol_fin h1 (fun e => h45 (.inl e)) (fun e => h45 (.inr e))
       rw [hM]
       repeat (first | (with_reducible first | refine Stp.up ?_ | refine fun (K : AK) hK => ?_ | refine wE ?_ | refine wK ?_ | refine wF ?_ | refine adrawG_k (by decide) ?_ | refine adrawG_e (by decide) ?_ | (refine hK _ ?_; clear hK K)) | simp only [go_sem, nG, nG0, nS, nS0, inObs_len, List.length_append, c4, c5, Go.undef] | with_reducible refine wA ?_ | clear hK K)
       rw [e3, ← elb]
       exact afw_n (by omega) (fun m => by simp only [AV.wf, wfL, wf_rwB, Bool.and_self])
end Go.Proofs.YtmdkgajjekbanaaDoor
