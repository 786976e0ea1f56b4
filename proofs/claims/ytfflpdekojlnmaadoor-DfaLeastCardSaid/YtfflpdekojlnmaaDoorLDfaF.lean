/- The labels of an expression, rising, each once: the plain law; expr.Labels told. -/
import Derived.Test.YtfflpdekojlnmaaDoorLLabels
import Derived.Test.YtfflpdekojlnmaaDoorLDfaE
import Derived.Test.YtfflpdekojlnmaaDoorLDfaS
set_option linter.unusedSimpArgs false
set_option linter.unusedVariables false
namespace Go.Proofs.YtfflpdekojlnmaaDoor
open Go.RowKit

section
open Go.Lib
theorem cmpG {α : Type} [Inhabited α] [DecidableEq α] {le : α → α → Prop} (tr : ∀ a b c, le a b → le b c → le a c) (an : ∀ a b, le a b → le b a → a = b) (rf : ∀ a, le a a) (d : Array α) (hs : ∀ i j, i ≤ j → j < d.size → le d[i]! d[j]!) :
  ∀ m, m ≤ d.size → (compactUpTo d m).Pairwise (fun a b => le a b ∧ a ≠ b) ∧ (∀ x, x ∈ compactUpTo d m ↔ ∃ j, j < m ∧ x = d[j]!) ∧ ∀ x, x ∈ compactUpTo d m → le x d[m - 1]!
 | 0, _ => ⟨by simp [compactUpTo], fun x => by simp [compactUpTo], fun x h => by simp [compactUpTo] at h⟩
 | m + 1, hm => by
  obtain ⟨h1, h2, h3⟩ := cmpG tr an rf d hs m (by omega)
  rw [compactUpTo_succ]
  have hle : ∀ x, x ∈ compactUpTo d m → le x d[m]! := fun x hx => by
   rcases Nat.eq_zero_or_pos m with e | e
   ·subst e; simp [compactUpTo] at hx
   ·exact tr _ _ _ (h3 x hx) (hs (m - 1) m (by omega) (by omega))
  by_cases hk : keeps d m = true
  ·rw [if_pos hk]
   refine ⟨?_, fun x => ?_, fun x hx => ?_⟩
   ·rw [List.pairwise_append]
    refine ⟨h1, by simp, fun a ha b hb => ?_⟩
    simp only [List.mem_cons, List.not_mem_nil, or_false] at hb
    subst hb
    refine ⟨hle a ha, fun e => ?_⟩
    rcases Nat.eq_zero_or_pos m with q | q
    ·subst q; simp [compactUpTo] at ha
    ·have hne : d[m]! ≠ d[m - 1]! := by
      simp only [keeps, decide_eq_true_eq] at hk
      rcases hk with hk | hk
      ·omega
      ·exact hk
     have h4 := h3 a ha
     have h5 := hs (m - 1) m (by omega) (by omega)
     rw [e] at h4
     exact hne (an _ _ h4 h5)
   ·simp only [List.mem_append, List.mem_cons, List.not_mem_nil, or_false, h2 x]
    constructor
    ·rintro (⟨j, hj, rfl⟩ | rfl)
     ·exact ⟨j, by omega, rfl⟩
     ·exact ⟨m, by omega, rfl⟩
    ·rintro ⟨j, hj, rfl⟩
     rcases Nat.lt_or_ge j m with q | q
     ·exact .inl ⟨j, q, rfl⟩
     ·obtain rfl : j = m := by omega
      exact .inr rfl
   ·rw [Nat.add_sub_cancel]
    simp only [List.mem_append, List.mem_cons, List.not_mem_nil, or_false] at hx
    rcases hx with hx | rfl
    ·exact hle x hx
    ·exact rf _
  ·rw [if_neg hk, List.append_nil]
   have hm0 : m ≠ 0 ∧ d[m]! = d[m - 1]! := by
    simp only [keeps, decide_eq_true_eq] at hk
    exact ⟨fun e => hk (.inl e), Classical.byContradiction fun e => hk (.inr e)⟩
   refine ⟨h1, fun x => ?_, fun x hx => by rw [Nat.add_sub_cancel]; exact hle x hx⟩
   rw [h2 x]
   constructor
   ·rintro ⟨j, hj, rfl⟩; exact ⟨j, by omega, rfl⟩
   ·rintro ⟨j, hj, rfl⟩
    rcases Nat.lt_or_ge j m with q | q
    ·exact ⟨j, q, rfl⟩
    ·obtain rfl : j = m := by omega
     exact ⟨j - 1, by omega, hm0.2⟩
theorem compactU (l : List (List UInt8)) : (Go.Lib.compact (l.mergeSort (fun x y => decide (x ≤ y)))).Pairwise (fun a b => a < b) ∧ ∀ x, x ∈ Go.Lib.compact (l.mergeSort (fun x y => decide (x ≤ y))) ↔ x ∈ l := by
 have hsort : (l.mergeSort (fun x y => decide (x ≤ y))).Pairwise (fun x y => decide (x ≤ y) = true) := List.pairwise_mergeSort (fun a b c h1 h2 => by simp only [decide_eq_true_eq] at *; exact List.le_trans h1 h2) (fun a b => by simp only [Bool.or_eq_true, decide_eq_true_eq]; exact List.le_total a b) _
 have hperm := List.mergeSort_perm l (fun x y => decide (x ≤ y))
 generalize l.mergeSort (fun x y => decide (x ≤ y)) = s at hsort hperm
 have hs : ∀ i j, i ≤ j → j < s.toArray.size → s.toArray[i]! ≤ s.toArray[j]! := fun i j hij hj => by
  have hj' : j < s.length := by simpa using hj
  have hi' : i < s.length := by omega
  rw [getElem!_pos s.toArray i (by simpa using hi'), getElem!_pos s.toArray j hj]
  simp only [List.getElem_toArray]
  rcases Nat.lt_or_ge i j with q | q
  ·have := List.pairwise_iff_getElem.1 hsort i j hi' hj' q
   simpa using this
  ·obtain rfl : i = j := by omega
   exact List.le_refl _
 obtain ⟨h1, h2, _⟩ := cmpG (le := fun a b : List UInt8 => a ≤ b) (fun _ _ _ => List.le_trans) (fun _ _ => List.le_antisymm) (fun _ => List.le_refl _) s.toArray hs s.length (by simp)
 refine ⟨?_, fun x => ?_⟩
 ·show (compactUpTo s.toArray s.length).Pairwise _
  refine h1.imp fun {a b} ⟨q1, q2⟩ => ?_
  exact Classical.byContradiction fun h => q2 (List.le_antisymm q1 (List.not_lt.1 h))
 ·show x ∈ compactUpTo s.toArray s.length ↔ _
  rw [h2 x, ← hperm.mem_iff]
  constructor
  ·rintro ⟨j, hj, rfl⟩
   rw [getElem!_pos s.toArray j (by simpa using hj)]
   simp
  ·intro hx
   obtain ⟨j, hj, rfl⟩ := List.getElem_of_mem hx
   exact ⟨j, hj, by rw [getElem!_pos s.toArray j (by simpa using hj)]; simp⟩
end
theorem labX_rise (x : Ex) : Rise (labX x) := by
 rw [Rise, labX, List.pairwise_map]
 exact (compactU _).1.imp fun h => by simpa using h
theorem labX_mem {x : Ex} {s : ByteArray} : s ∈ labX x ↔ s ∈ labE x := by
 rw [labX, List.mem_map]
 constructor
 ·rintro ⟨l, h, rfl⟩
  have := ((compactU _).2 l).1 h
  obtain ⟨t, h1, rfl⟩ := List.mem_map.1 this
  simpa using h1
 ·intro h
  exact ⟨s.data.toList, ((compactU _).2 _).2 (List.mem_map_of_mem h), by simp⟩
theorem labX_nd (x : Ex) : (labX x).Nodup := rise_nd (labX_rise x)
theorem labX_len (x : Ex) : (labX x).length ≤ (labE x).length := (labX_nd x).length_le_of_subset fun _ h => labX_mem.1 h
/-! ### the labels among an expression's parts -/
theorem labs_parts {x : Ex} (h : Fit x) : ((exParts x).filter (fun y => y.kind == 1)).map Ex.label = labE x := by
 induction h with
 | lab s => simp [exParts, exsParts_eq, labE, Ex.kind, Ex.label]
 | many k s l hk hl hf ih =>
  have hk1 : ¬ k = 1 := by rcases hk with rfl | rfl <;> decide
  rw [exParts, exsParts_eq, labE_of hk1, List.filter_cons_of_neg (by simpa [Ex.kind] using hk1)]
  clear hl hf
  induction l with
  | nil => rfl
  | cons a l ih2 =>
   rw [List.flatMap_cons, List.filter_append, List.map_append, labEs, ih a (by simp), ih2 (fun y hy => ih y (by simp [hy]))]
 | one k s x hk hf ih =>
  have hk1 : ¬ k = 1 := by rcases hk with rfl | rfl | rfl <;> decide
  rw [exParts, exsParts_eq, labE_of hk1, List.filter_cons_of_neg (by simpa [Ex.kind] using hk1), List.flatMap_cons, List.flatMap_nil, List.append_nil, ih, labEs, labEs, List.append_nil]
theorem labC_parts {x : Ex} (h : Fit x) (L : List XC) (e : L.map XC.sig = (exParts x).map Ex.sig) : labC L = labE x := by
 rw [← labs_parts h]
 have h1 : labC L = ((L.map XC.sig).filter (fun c => c.1 == 1)).map (fun c => c.2.1) := by
  rw [labC, List.filter_map, List.map_map]; rfl
 have h2 : ((exParts x).filter (fun y => y.kind == 1)).map Ex.label = (((exParts x).map Ex.sig).filter (fun c => c.1 == 1)).map (fun c => c.2.1) := by
  have e1 : ((fun c : Int × ByteArray × Nat => c.1 == 1) ∘ Ex.sig) = fun y => y.kind == 1 := by funext y; cases y; rfl
  have e2 : ((fun c : Int × ByteArray × Nat => c.2.1) ∘ Ex.sig) = Ex.label := by funext y; cases y; rfl
  rw [List.filter_map, List.map_map, e1, e2]
 rw [h1, h2, e]
theorem labels_c (x : Ex) (h : x.ok) (hr : exRight x = true) : Call1 Tryd.prog 16 [.agg (encE x)] (strsA (labX x)) :=
 .of_strs (by kernel_rfl) (by simp only [wfL, AV.wf, wf_encE1, Bool.and_self]) (fun D nu w vargs hh => by
  obtain ⟨a, rfl, ha⟩ := ras_one hh
  obtain ⟨ca, rfl, ka⟩ := ra_agg ha
  have hp : (exParts x).length ≤ 1000000 := by
   have := hr
   simp only [exRight, Bool.and_eq_true, decide_eq_true_eq] at this
   omega
  exact labels_any x ca w (rls_ex x ca ka) h hr hp (labC_parts (right_fit hr).1))
end Go.Proofs.YtfflpdekojlnmaaDoor

namespace Go.Proofs.YtfflpdekojlnmaaDoor
open Go.RowKit

/-! ### labels -/
theorem lab_free {x : Ex} (hr : exRight x = true) {l : ByteArray} (h : l ∈ labE x) : freeB l = true := by
 rw [← labs_parts (right_fit hr).1, List.mem_map] at h
 obtain ⟨y, hy, rfl⟩ := h
 rw [List.mem_filter] at hy
 have hp : y.part = true := by
  simp only [exRight, Bool.and_eq_true, List.all_eq_true] at hr
  exact hr.2 y hy.1
 obtain ⟨k, s, kids⟩ := y
 have hk : k = 1 := by simpa [Ex.kind] using hy.2
 subst hk
 simp only [Ex.part, partB, BEq.rfl, if_true, Bool.and_eq_true] at hp
 exact hp.2
theorem free_size {s : ByteArray} (h : freeB s = true) : s.size ≤ 20 := by
 simp only [freeB, vertB, Bool.and_eq_true, decide_eq_true_eq] at h
 exact h.1.1.2
theorem free_sp {s : ByteArray} (h : freeB s = true) : 32 ∉ s.data.toList := fun hm => by
 simp only [freeB, vertB, Bool.and_eq_true, List.all_eq_true] at h
 have := h.1.1.1.1 32 hm
 revert this; decide
theorem labX_sp {x : Ex} (hr : exRight x = true) : ∀ l ∈ labX x, 32 ∉ l.data.toList := fun l hl => free_sp (lab_free hr (labX_mem.1 hl))
theorem labX_sz {x : Ex} (hr : exRight x = true) : ∀ l ∈ labX x, l.size ≤ 20 := fun l hl => free_size (lab_free hr (labX_mem.1 hl))
theorem labX_n {x : Ex} (hr : exRight x = true) : (labX x).length ≤ 24 := by
 have N := newM_law hr
 have := labX_len x
 have := N.ok.n
 rw [N.labs] at this
 omega
/-! ### the sets' graph -/
theorem sets_g {x : Ex} (hr : exRight x = true) {st : SSt} (h : setsX x (labX x) = some st) : GOk st.rows st.ends ∧ 0 < st.rows.length ∧ (partsM st.rows st.ends).length = st.rows.length := by
 obtain ⟨ho, hl, hw⟩ := sets_ok (stepL (newM x)) (newM x).em (bitsM (newM x).la) (labX_nd x) h
 have hz0 : (st.all)[0]? = some [0] := hw.zero
 have hpos : 0 < st.rows.length := by rw [hl]; exact (List.getElem?_eq_some_iff.1 hz0).1
 have hT := sets_rows ho hl
 obtain ⟨_, hpl⟩ := partsM_stb st.rows st.ends (sets_nosp (labX_sp hr) ho) hT hpos ho.ends
 refine ⟨⟨by have := ho.max; omega, ho.ends, fun r hr' => (labX_rise x).sublist (ho.row r hr').1, fun r hr' => ?_, fun r hr' p hp => ⟨?_, hT r hr' p hp⟩⟩, hpos, hpl⟩
 ·have := (ho.row r hr').1.length_le
  have := labX_n hr
  simp only [List.length_map] at *; omega
 ·have := labX_sz hr _ ((ho.row r hr').1.subset (List.mem_map_of_mem hp)); omega
/-! ### an automaton -/
def autoV (A : ADt) : List AV := gV A.rows A.ends ++ [strsA A.labs]
theorem wf_autoV (n : Nat) (A : ADt) : wfL n (autoV A) = true := by simp only [autoV, gV, strsA, List.cons_append, List.nil_append, wfL, AV.wf, wf_gR, wf_gE, wf_encS, Bool.and_self]
set_option maxRecDepth 100000 in
theorem dlen_c (A : ADt) : Call1 Tryd.prog 8 [.vp (autoV A)] (.v (.int .i64 A.rows.length)) := by
 simp only [autoV, gV, strsA, List.cons_append, List.nil_append]
 (refine Call1.enter Tryd.func8 rfl (by kernel_rfl) (by kernel_rfl) rfl (by first | rfl | (simp only [go_sem, Bool.and_self, Bool.and_true, Bool.true_and])) (by first | rfl | (simp only [go_sem, Bool.and_self, Bool.and_true, Bool.true_and])) ?_; simp only [Tryd.ntmps8, Tryd.results8, List.length_cons, List.length_nil, Nat.reduceAdd, Nat.reduceSub, List.replicate_succ, List.replicate_zero, List.cons_append, List.nil_append])
 repeat (first | (with_reducible first | refine Stp.up ?_ | refine fun (K : AK) hK => ?_ | (refine hK _ ?_; clear hK K)) | simp only [go_sem] | clear hK K)
noncomputable def newA (x : Ex) : AV := match autoM x (labX x) with
 | .inl A => .tup [.vp (autoV A), .v (.int .i64 0)]
 | .inr e => .tup [.v (.pointer none), .v (.int .i64 e)]
theorem wf_newA (x : Ex) : (newA x).wf 0 = true := by
 unfold newA
 split
 ·simp only [AV.wf, wfL, wf_autoV, Bool.and_self]
 ·rfl
set_option maxRecDepth 100000 in
set_option maxHeartbeats 4000000 in
theorem dnew_c (x : Ex) (ho : x.ok) : Call1 Tryd.prog 6 [.agg (encE x)] (newA x) := by
 have CN := new_c x ho
 have hF := wf_newA x
 have hu : newA x = (if exRight x then (match setsX x (labX x) with
  | some st => if 32 < (leastX (labX x) st).rows.length then .tup [.v (.pointer none), .v (.int .i64 11)] else .tup [.vp (autoV (leastX (labX x) st)), .v (.int .i64 0)]
  | none => .tup [.v (.pointer none), .v (.int .i64 11)]) else .tup [.v (.pointer none), .v (.int .i64 2)]) := by
  unfold newA autoM
  cases exRight x
  ·rfl
  ·simp only [if_true]
   cases setsX x (labX x) with
   | none => rfl
   | some st =>
    by_cases h32 : 32 < (leastX (labX x) st).rows.length
    ·simp only [if_pos h32]
    ·simp only [if_neg h32]
 rw [hu] at hF ⊢
 clear hu
 cases hr : exRight x
 ·rw [hr] at CN hF
  simp only [Bool.false_eq_true, if_false] at CN hF ⊢
  simp only [encE_eq] at *
  (refine Call1.enter Tryd.func6 rfl (by kernel_rfl) (by kernel_rfl) rfl (by first | rfl | (simp only [go_sem, Bool.and_self, Bool.and_true, Bool.true_and])) (by first | rfl | (simp only [go_sem, Bool.and_self, Bool.and_true, Bool.true_and])) ?_; simp only [Tryd.ntmps6, Tryd.results6, List.length_cons, List.length_nil, Nat.reduceAdd, Nat.reduceSub, List.replicate_succ, List.replicate_zero, List.cons_append, List.nil_append])
  repeat (first | (with_reducible first | refine Stp.up ?_ | refine fun (K : AK) hK => ?_ | (refine hK _ ?_; clear hK K)) | simp only [go_sem] | clear hK K)
  refine ACallV.one CN ?_
  repeat (first | (with_reducible first | refine Stp.up ?_ | refine fun (K : AK) hK => ?_ | (refine hK _ ?_; clear hK K)) | simp only [go_sem] | clear hK K)
  (refine AFz.of 40 rfl ?_; simp only [go_sem])
 ·have CL := labels_c x ho hr
  rw [hr] at CN hF
  simp only [if_true] at CN hF ⊢
  have ok := (newM_law hr).ok
  have hln := labX_n hr
  have CS := sets_c ok (labX x) (labX_nd x) (by omega) (bits_small _).2
  have hS : setsM (stepL (newM x)) (newM x).em (bitsM (newM x).la) (labX x) = setsX x (labX x) := rfl
  rw [hS] at CS
  cases hst : setsX x (labX x) with
  | none =>
   rw [hst] at CS hF
   simp only [setsA] at CS
   simp only [encE_eq, strsA] at *
   (refine Call1.enter Tryd.func6 rfl (by kernel_rfl) (by kernel_rfl) rfl (by first | rfl | (simp only [go_sem, Bool.and_self, Bool.and_true, Bool.true_and])) (by first | rfl | (simp only [go_sem, Bool.and_self, Bool.and_true, Bool.true_and])) ?_; simp only [Tryd.ntmps6, Tryd.results6, List.length_cons, List.length_nil, Nat.reduceAdd, Nat.reduceSub, List.replicate_succ, List.replicate_zero, List.cons_append, List.nil_append])
   repeat (first | (with_reducible first | refine Stp.up ?_ | refine fun (K : AK) hK => ?_ | (refine hK _ ?_; clear hK K)) | simp only [go_sem] | clear hK K)
   refine ACallV.one CN ?_
   repeat (first | (with_reducible first | refine Stp.up ?_ | refine fun (K : AK) hK => ?_ | (refine hK _ ?_; clear hK K)) | simp only [go_sem] | clear hK K)
   refine ACallV.one CL ?_
   repeat (first | (with_reducible first | refine Stp.up ?_ | refine fun (K : AK) hK => ?_ | (refine hK _ ?_; clear hK K)) | simp only [go_sem] | clear hK K)
   refine ACallV.one CS ?_
   repeat (first | (with_reducible first | refine Stp.up ?_ | refine fun (K : AK) hK => ?_ | (refine hK _ ?_; clear hK K)) | simp only [go_sem] | clear hK K)
   (refine AFz.of 40 rfl ?_; simp only [go_sem])
  | some st =>
   rw [hst] at CS hF
   obtain ⟨g1, g2, g3⟩ := sets_g hr hst
   have CQ := least_c g1 g2 g3
   have CZ := dlen_c (leastX (labX x) st)
   simp only [setsA] at CS
   by_cases h32 : 32 < (leastX (labX x) st).rows.length
   ·simp only [if_pos h32] at hF ⊢
    simp only [encE_eq, strsA, autoV, gA, leastX, gV, List.cons_append, List.nil_append] at *
    clear hF g1 g2 g3 hS hst
    generalize leastM st.rows st.ends (partsM st.rows st.ends) = L at CQ CZ h32 ⊢
    (refine Call1.enter Tryd.func6 rfl (by kernel_rfl) (by kernel_rfl) rfl (by first | rfl | (simp only [go_sem, Bool.and_self, Bool.and_true, Bool.true_and])) (by first | rfl | (simp only [go_sem, Bool.and_self, Bool.and_true, Bool.true_and])) ?_; simp only [Tryd.ntmps6, Tryd.results6, List.length_cons, List.length_nil, Nat.reduceAdd, Nat.reduceSub, List.replicate_succ, List.replicate_zero, List.cons_append, List.nil_append])
    repeat (first | (with_reducible first | refine Stp.up ?_ | refine fun (K : AK) hK => ?_ | (refine hK _ ?_; clear hK K)) | simp only [go_sem] | clear hK K)
    refine ACallV.one CN ?_
    repeat (first | (with_reducible first | refine Stp.up ?_ | refine fun (K : AK) hK => ?_ | (refine hK _ ?_; clear hK K)) | simp only [go_sem] | clear hK K)
    refine ACallV.one CL ?_
    repeat (first | (with_reducible first | refine Stp.up ?_ | refine fun (K : AK) hK => ?_ | (refine hK _ ?_; clear hK K)) | simp only [go_sem] | clear hK K)
    refine ACallV.one CS ?_
    repeat (first | (with_reducible first | refine Stp.up ?_ | refine fun (K : AK) hK => ?_ | (refine hK _ ?_; clear hK K)) | simp only [go_sem] | clear hK K)
    refine ACallV.one CQ ?_
    repeat (first | (with_reducible first | refine Stp.up ?_ | refine fun (K : AK) hK => ?_ | (refine hK _ ?_; clear hK K)) | simp only [go_sem] | clear hK K)
    refine ACallV.frz CZ 20 rfl (by simp only [go_sem, Nat.reduceLT, Nat.reduceLeDiff, Nat.reduceEqDiff, Nat.lt_add_one, Nat.zero_lt_one, and_self]) rfl ?_
    repeat (first | (with_reducible first | refine Stp.up ?_ | refine fun (K : AK) hK => ?_ | (refine hK _ ?_; clear hK K)) | simp only [go_sem] | clear hK K)
    refine AIf.part (fun h => ?_) (fun h => ?_)
    ·repeat (first | (with_reducible first | refine Stp.up ?_ | refine fun (K : AK) hK => ?_ | (refine hK _ ?_; clear hK K)) | simp only [go_sem] | clear hK K)
     (refine AFz.of 40 rfl ?_; simp only [go_sem])
    ·exfalso; (try simp only [bne_iff_ne, ne_eq, bne_eq_false_iff_eq, beq_iff_eq, beq_eq_false_iff_ne, decide_eq_true_eq, decide_eq_false_iff_not, Bool.not_eq_eq_eq_not, Int.natCast_inj, Int.ofNat_lt, Int.ofNat_le] at h); omega
   ·simp only [if_neg h32] at hF ⊢
    simp only [encE_eq, strsA, autoV, gA, leastX, gV, List.cons_append, List.nil_append] at *
    clear hF g1 g2 g3 hS hst
    generalize leastM st.rows st.ends (partsM st.rows st.ends) = L at CQ CZ h32 ⊢
    (refine Call1.enter Tryd.func6 rfl (by kernel_rfl) (by kernel_rfl) rfl (by first | rfl | (simp only [go_sem, Bool.and_self, Bool.and_true, Bool.true_and])) (by first | rfl | (simp only [go_sem, Bool.and_self, Bool.and_true, Bool.true_and])) ?_; simp only [Tryd.ntmps6, Tryd.results6, List.length_cons, List.length_nil, Nat.reduceAdd, Nat.reduceSub, List.replicate_succ, List.replicate_zero, List.cons_append, List.nil_append])
    repeat (first | (with_reducible first | refine Stp.up ?_ | refine fun (K : AK) hK => ?_ | (refine hK _ ?_; clear hK K)) | simp only [go_sem] | clear hK K)
    refine ACallV.one CN ?_
    repeat (first | (with_reducible first | refine Stp.up ?_ | refine fun (K : AK) hK => ?_ | (refine hK _ ?_; clear hK K)) | simp only [go_sem] | clear hK K)
    refine ACallV.one CL ?_
    repeat (first | (with_reducible first | refine Stp.up ?_ | refine fun (K : AK) hK => ?_ | (refine hK _ ?_; clear hK K)) | simp only [go_sem] | clear hK K)
    refine ACallV.one CS ?_
    repeat (first | (with_reducible first | refine Stp.up ?_ | refine fun (K : AK) hK => ?_ | (refine hK _ ?_; clear hK K)) | simp only [go_sem] | clear hK K)
    refine ACallV.one CQ ?_
    repeat (first | (with_reducible first | refine Stp.up ?_ | refine fun (K : AK) hK => ?_ | (refine hK _ ?_; clear hK K)) | simp only [go_sem] | clear hK K)
    refine ACallV.frz CZ 20 rfl (by simp only [go_sem, Nat.reduceLT, Nat.reduceLeDiff, Nat.reduceEqDiff, Nat.lt_add_one, Nat.zero_lt_one, and_self]) rfl ?_
    repeat (first | (with_reducible first | refine Stp.up ?_ | refine fun (K : AK) hK => ?_ | (refine hK _ ?_; clear hK K)) | simp only [go_sem] | clear hK K)
    refine AIf.part (fun h => ?_) (fun h => ?_)
    ·exfalso; (try simp only [bne_iff_ne, ne_eq, bne_eq_false_iff_eq, beq_iff_eq, beq_eq_false_iff_ne, decide_eq_true_eq, decide_eq_false_iff_not, Bool.not_eq_eq_eq_not, Int.natCast_inj, Int.ofNat_lt, Int.ofNat_le] at h); omega
    ·repeat (first | (with_reducible first | refine Stp.up ?_ | refine fun (K : AK) hK => ?_ | (refine hK _ ?_; clear hK K)) | simp only [go_sem] | clear hK K)
     (refine AFz.of 40 rfl ?_; simp only [go_sem])
end Go.Proofs.YtfflpdekojlnmaaDoor
