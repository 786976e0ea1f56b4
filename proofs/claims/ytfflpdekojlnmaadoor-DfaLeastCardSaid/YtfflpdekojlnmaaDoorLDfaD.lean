/- dfa.parts: the parts of the states. -/
import Derived.Test.YtfflpdekojlnmaaDoorLDfaC
import Derived.Test.YtfflpdekojlnmaaDoorLDfaK
set_option linter.unusedSimpArgs false
set_option linter.unusedVariables false
namespace Go.Proofs.YtfflpdekojlnmaaDoor
open Go.RowKit

structure GOk (rows : List LRow) (ends : List Bool) : Prop where
 n : rows.length ≤ 256
 e : ends.length = rows.length
 rise : ∀ r ∈ rows, Rise (r.map Prod.fst)
 len : ∀ r ∈ rows, r.length ≤ 1000
 lab : ∀ r ∈ rows, ∀ p ∈ r, p.1.size ≤ 1000 ∧ p.2 < rows.length

/-! ### the key text, as it grows -/
theorem cat_size (a b : ByteArray) : (a ++ b).size = a.size + b.size := ByteArray.size_append
theorem digs_sz (u : Nat) (h : u < 1000) : (⟨(Lib.decDigits u).toArray⟩ : ByteArray).size ≤ 3 := by
 have := digs_len u h
 simpa [ByteArray.size] using this
theorem pKeyB_nil (part : List Nat) (p : Nat) : pKeyB part p [] = ⟨(Lib.decDigits p).toArray⟩ := by simp [pKeyB, pKey]
theorem pKeyB_snoc (part : List Nat) (p : Nat) (r : LRow) (e : ByteArray × Nat) : pKeyB part p (r ++ [e]) = pKeyB part p r ++ (((⟨#[32]⟩ ++ e.1) ++ ⟨#[32]⟩) ++ ⟨(Lib.decDigits (part.getD e.2 0)).toArray⟩) := by
 apply ByteArray.ext
 rw [pKeyB, pKey_snoc]
 simp [pKeyB, ByteArray.data_append]
theorem pKeyB_size (part : List Nat) (p : Nat) (hp : p < 1000) (hq : ∀ s, part.getD s 0 < 1000) : ∀ r : LRow, (∀ e ∈ r, e.1.size ≤ 1000) → (pKeyB part p r).size ≤ 3 + 1005 * r.length := by
 refine snocInd ?_ ?_
 ·intro _; rw [pKeyB_nil]; have := digs_sz p hp; simpa using this
 ·intro r e ih h
  have h1 := ih fun x hx => h x (List.mem_append_left _ hx)
  have h2 := h e (by simp)
  have h3 := digs_sz _ (hq e.2)
  have h4 : (⟨#[32]⟩ : ByteArray).size = 1 := rfl
  rw [pKeyB_snoc, cat_size, cat_size, cat_size, cat_size, h4, List.length_append, List.length_singleton]
  omega
theorem getD_lt {l : List Nat} {b : Nat} (hb : 0 < b) (h : ∀ v ∈ l, v < b) (s : Nat) : l.getD s 0 < b := by
 rw [List.getD_eq_getElem?_getD]
 cases hs : l[s]? with
 | none => simpa using hb
 | some v => exact h v (List.mem_of_getElem? hs)
theorem p0_lt (ends : List Bool) : ∀ v ∈ p0 ends, v < 1000 := fun v hv => by
 rw [p0, List.mem_map] at hv
 obtain ⟨b, _, rfl⟩ := hv
 split <;> omega
theorem pIns_lt (rows : List LRow) (part : List Nat) (n : Nat) (v : Nat) (hv : v ∈ (pIns rows part n).2) : v < (pIns rows part n).1.length := by
 have ok := pIns_ok rows part n
 obtain ⟨s, hs, rfl⟩ := List.mem_iff_getElem.1 hv
 have := (ok.at' s (by have := ok.len; omega)).1
 rw [List.getD_eq_getElem?_getD, List.getElem?_eq_getElem hs] at this
 exact this
theorem pNx_lt {rows : List LRow} (hn : rows.length ≤ 256) (part : List Nat) : ∀ v ∈ pNext rows part, v < 1000 := fun v hv => by
 have := pIns_lt rows part rows.length v hv
 have := (pIns_ok rows part rows.length).le
 omega
theorem setN (A : List Nat) (n i v : Nat) (hA : A.length = i) (h : i < n) : (encN (A ++ List.replicate (n - i) 0)).set i [.v (.int .i64 (v : Nat))] = encN ((A ++ [v]) ++ List.replicate (n - (i + 1)) 0) := by
 rw [show n - i = (n - (i + 1)) + 1 by omega, List.replicate_succ, encN, encN, List.map_append, List.map_append, List.map_append, List.set_append, if_neg (by simp [hA])]
 simp [hA]
theorem getN (A : List Nat) (n i : Nat) (hA : A.length = i) (h : i < n) : (encN (A ++ List.replicate (n - i) 0)).getD i [] = [.v (.int .i64 0)] := by
 rw [show n - i = (n - (i + 1)) + 1 by omega, List.replicate_succ, encN, List.map_append, List.getD_eq_getElem?_getD, List.getElem?_append_right (by simp [hA])]
 simp [hA]
theorem skipN (A : List Nat) (n i : Nat) (h : i < n) : A ++ List.replicate (n - i) 0 = (A ++ [0]) ++ List.replicate (n - (i + 1)) 0 := by
 rw [show n - i = (n - (i + 1)) + 1 by omega, List.replicate_succ]; simp
def prt1 (ends : List Bool) (i : Nat) : List (Option AObj) := [some ⟨3, 1, true, encN (p0 (ends.take i) ++ List.replicate (ends.length - i) 0)⟩, some ⟨75, 1, false, [[.vec 0 ends.length]]⟩]
def prt2 (n : Nat) (part : List Nat) : List (Option AObj) := [none, some ⟨75, 1, false, [[.slc 1 (encN part) n]]⟩]
def prt3 (rows : List LRow) (part : List Nat) (s : Nat) : List (Option AObj) := prt2 rows.length part ++ [some ⟨59, 0, false, knM (pIns rows part s).1⟩, some ⟨3, 1, true, encN ((pIns rows part s).2 ++ List.replicate (rows.length - s) 0)⟩]
set_option maxRecDepth 100000 in
set_option maxHeartbeats 8000000 in
theorem parts_c {rows : List LRow} {ends : List Bool} (ok : GOk rows ends) : Call1 Tryd.prog 34 [.vp (gV rows ends)] (.slc 1 (encN (partsM rows ends)) rows.length) := by
 have hN := ok.n
 have hE := ok.e
 have hA : wfL 0 [AV.vp (gV rows ends)] = true := by simp only [gV, wfL, AV.wf, wf_gR, wf_gE, Bool.and_self]
 have hF : (AV.slc 1 (encN (partsM rows ends)) rows.length).wf 0 = true := by simp only [AV.wf, wf_encNN]
 generalize hrv : AV.slc 1 (encN (partsM rows ends)) rows.length = rv at hF ⊢
 (refine Call1.enterS Tryd.func34 rfl (by kernel_rfl) (by kernel_rfl) rfl hA hF ?_; simp only [Tryd.ntmps34, Tryd.results34, List.length_cons, List.length_nil, Nat.reduceAdd, Nat.reduceSub, List.replicate_succ, List.replicate_zero, List.cons_append, List.nil_append])
 simp only [gV]
 repeat (first | (with_reducible first | refine Stp.up ?_ | refine fun (K : AK) hK => ?_ | refine wE ?_ | refine wK ?_ | refine wF ?_ | (refine hK _ ?_; clear hK K)) | simp only [go_sem] | with_reducible refine wA ?_ | clear hK K)
 refine awp_loopO (ι := Nat) 27 (fun i => [(4, .undef), (5, .undef), (26, .v (.int .i64 i))]) (prt1 ends) (fun i => ends.length - i) (fun i => i ≤ ends.length) 0 (Nat.zero_le _) ?_ ?_
 ·have e0 : encN (p0 (ends.take 0) ++ List.replicate (ends.length - 0) 0) = List.replicate rows.length [AV.v (.int .i64 0)] := by
   rw [hE]; simp [p0, encN]
  simp only [prt1, e0, hE]
  (refine wk_mk ?_ ?_ ?_ <;> simp only [frm, List.foldl_cons, List.foldl_nil, List.replicate_succ, List.replicate_zero, WkT, WkO, AV.v.injEq, Value.int.injEq, Value.bool.injEq, Value.string.injEq, AV.vec.injEq, AV.ptr.injEq, true_or, or_true, false_or, or_false, AObj.mk.injEq, forall_eq_apply_imp_iff, forall_eq, forall_eq', go_sem])
  all_goals first | rfl | simp [p0, encN]
 ·intro i hi K hK
  simp only [prt1]
  repeat (first | (with_reducible first | refine Stp.up ?_ | refine fun (K : AK) hK => ?_ | refine wE ?_ | refine wK ?_ | refine wF ?_ | (refine hK _ ?_; clear hK K)) | simp only [go_sem] | with_reducible refine wA ?_ | clear hK K)
  refine AIf.part (fun h => ?_) (fun h => ?_)
  ·have hlt : i < ends.length := by (try simp only [bne_iff_ne, ne_eq, bne_eq_false_iff_eq, beq_iff_eq, beq_eq_false_iff_ne, decide_eq_true_eq, decide_eq_false_iff_not, Bool.not_eq_eq_eq_not, Int.natCast_inj, Int.ofNat_lt, Int.ofNat_le] at h); omega
   have eW := wrap_succ (k := i) (by omega)
   have eG : (ends.map (fun b => [AV.v (.bool b)])).getD i [] = [.v (.bool ends[i])] := by
    rw [List.getD_eq_getElem?_getD, List.getElem?_map, List.getElem?_eq_getElem hlt]; rfl
   have hl0 : (p0 (ends.take i)).length = i := by rw [p0, List.length_map, List.length_take]; omega
   have eL : (encN (p0 (ends.take i) ++ List.replicate (ends.length - i) 0)).length = ends.length := by rw [encN, List.length_map, List.length_append, hl0, List.length_replicate]; omega
   have eN : p0 (ends.take (i + 1)) = p0 (ends.take i) ++ [if ends[i] then 1 else 0] := by rw [p0, p0, List.take_succ_eq_append_getElem hlt, List.map_append]; rfl
   rcases (Bool.eq_false_or_eq_true ends[i]).symm with hb | hb
   ·rw [hb] at eG eN
    rw [if_neg (by decide)] at eN
    repeat (first | (with_reducible first | refine Stp.up ?_ | refine fun (K : AK) hK => ?_ | refine wE ?_ | refine wK ?_ | refine wF ?_ | (refine hK _ ?_; clear hK K)) | simp only [go_sem, eG, h] | with_reducible refine wA ?_ | clear hK K)
    repeat (first | (with_reducible first | refine Stp.up ?_ | refine fun (K : AK) hK => ?_ | refine wE ?_ | refine wK ?_ | refine wF ?_ | (refine hK _ ?_; clear hK K)) | simp only [go_sem, eW] | with_reducible refine wA ?_ | clear hK K)
    refine LNext.mk (i + 1) (by omega) (by omega) ?_
    simp only [prt1, eN, ← skipN _ _ _ hlt]
    (refine wk_mk ?_ ?_ ?_ <;> simp only [frm, List.foldl_cons, List.foldl_nil, List.replicate_succ, List.replicate_zero, WkT, WkO, AV.v.injEq, Value.int.injEq, Value.bool.injEq, Value.string.injEq, AV.vec.injEq, AV.ptr.injEq, true_or, or_true, false_or, or_false, AObj.mk.injEq, forall_eq_apply_imp_iff, forall_eq, forall_eq', go_sem])
   ·rw [hb] at eG eN
    rw [if_pos rfl] at eN
    have eS := setN (p0 (ends.take i)) ends.length i 1 hl0 hlt
    have eS := setN (p0 (ends.take i)) ends.length i 1 hl0 hlt
    have eQ := getN (p0 (ends.take i)) ends.length i hl0 hlt
    have c1 : ((1 : Nat) : Int) = 1 := rfl
    rw [c1] at eS
    repeat (first | (with_reducible first | refine Stp.up ?_ | refine fun (K : AK) hK => ?_ | refine wE ?_ | refine wK ?_ | refine wF ?_ | (refine hK _ ?_; clear hK K)) | simp only [go_sem, eG, h, eL, eQ, List.drop_succ_cons, List.drop_zero, eS] | with_reducible refine wA ?_ | clear hK K)
    repeat (first | (with_reducible first | refine Stp.up ?_ | refine fun (K : AK) hK => ?_ | refine wE ?_ | refine wK ?_ | refine wF ?_ | (refine hK _ ?_; clear hK K)) | simp only [go_sem, eW] | with_reducible refine wA ?_ | clear hK K)
    refine LNext.mk (i + 1) (by omega) (by omega) ?_
    simp only [prt1, eN]
    (refine wk_mk ?_ ?_ ?_ <;> simp only [frm, List.foldl_cons, List.foldl_nil, List.replicate_succ, List.replicate_zero, WkT, WkO, AV.v.injEq, Value.int.injEq, Value.bool.injEq, Value.string.injEq, AV.vec.injEq, AV.ptr.injEq, true_or, or_true, false_or, or_false, AObj.mk.injEq, forall_eq_apply_imp_iff, forall_eq, forall_eq', go_sem])
    all_goals trace_state
  ·have h16 : i = ends.length := by (try simp only [bne_iff_ne, ne_eq, bne_eq_false_iff_eq, beq_iff_eq, beq_eq_false_iff_ne, decide_eq_true_eq, decide_eq_false_iff_not, Bool.not_eq_eq_eq_not, Int.natCast_inj, Int.ofNat_lt, Int.ofNat_le] at h); omega
   have e1 : encN (p0 (ends.take i) ++ List.replicate (ends.length - i) 0) = encN (p0 ends) := by rw [h16, List.take_length, Nat.sub_self]; simp
   have l0 : (encN (p0 ends)).length = ends.length := by simp [encN, p0]
   have l1 : (p0 ends).length = rows.length := by simp [p0, hE]
   simp only [e1]
   repeat ((fail_if_success (with_reducible refine stopR (i := 8) ?_)); first | (with_reducible first | refine Stp.up ?_ | refine fun (K : AK) hK => ?_ | refine wK ?_ | refine wF ?_ | (refine hK _ ?_; clear hK K)) | simp only [go_sem] | with_reducible refine wA ?_ | clear hK K)
   refine awp_turn (turn_frc (k := 1) (i := 0) (j := 0) (by decide) rfl (Nat.zero_lt_succ _) rfl rfl rfl rfl l0) (by kernel_rfl) ?_
   simp only [List.set_cons_zero, List.set_cons_succ, hE]
   clear hi h h16 e1 l0
   have hs0 : ∃ f, rows.length + 2 ≤ f + 0 ∧ AV.slc 1 (encN (pRun rows f (p0 ends) 0)) rows.length = rv := ⟨rows.length + 2, Nat.le_refl _, hrv⟩
   clear hrv
   repeat (first | (with_reducible first | refine Stp.up ?_ | refine fun (K : AK) hK => ?_ | refine wE ?_ | refine wK ?_ | refine wF ?_ | (refine hK _ ?_; clear hK K)) | simp only [go_sem] | with_reducible refine wA ?_ | clear hK K)
   refine awp_loopO (ι := List Nat × Nat) 7 (fun x => [(4, .undef), (5, .undef), (6, .v (.int .i64 x.2))]) (fun x => prt2 rows.length x.1) (fun x => rows.length + 1 - x.2) (fun x => (∀ v ∈ x.1, v < 1000) ∧ x.2 ≤ rows.length ∧ POn rows x.1 x.2 ∧ ∃ f, rows.length + 2 ≤ f + x.2 ∧ AV.slc 1 (encN (pRun rows f x.1 x.2)) rows.length = rv) (p0 ends, 0) ⟨p0_lt ends, Nat.zero_le _, ⟨l1, fun k hk => absurd hk (Nat.not_lt_zero k)⟩, hs0⟩ ?_ ?_
   ·simp only [prt2]
    (refine wk_mk ?_ ?_ ?_ <;> simp only [frm, List.foldl_cons, List.foldl_nil, List.replicate_succ, List.replicate_zero, WkT, WkO, AV.v.injEq, Value.int.injEq, Value.bool.injEq, Value.string.injEq, AV.vec.injEq, AV.ptr.injEq, true_or, or_true, false_or, or_false, AObj.mk.injEq, forall_eq_apply_imp_iff, forall_eq, forall_eq', go_sem])
    all_goals rfl
   ·rintro ⟨part, many⟩ ⟨hpl, hml, hpo, f, hf, hfr⟩ K hK
    simp only at hpl hml hpo hf hfr
    have hpn := hpo.1
    simp only [prt2]
    repeat (first | (with_reducible first | refine Stp.up ?_ | refine fun (K : AK) hK => ?_ | refine wE ?_ | refine wK ?_ | refine wF ?_ | (refine hK _ ?_; clear hK K)) | simp only [go_sem] | with_reducible refine wA ?_ | clear hK K)
    have z0 : List.replicate rows.length [AV.v (.int .i64 0)] = encN (List.replicate rows.length 0) := by simp [encN]
    refine awp_loopO (ι := Nat) 46 (fun s => [(9, .undef), (10, .undef), (11, .undef), (12, .undef), (13, .undef), (14, .undef), (45, .v (.int .i64 s))]) (prt3 rows part) (fun s => rows.length - s) (fun s => s ≤ rows.length) 0 (Nat.zero_le _) ?_ ?_
    ·simp only [prt3, prt2, List.cons_append, List.nil_append]
     (refine wk_mk ?_ ?_ ?_ <;> simp only [frm, List.foldl_cons, List.foldl_nil, List.replicate_succ, List.replicate_zero, WkT, WkO, AV.v.injEq, Value.int.injEq, Value.bool.injEq, Value.string.injEq, AV.vec.injEq, AV.ptr.injEq, true_or, or_true, false_or, or_false, AObj.mk.injEq, forall_eq_apply_imp_iff, forall_eq, forall_eq', go_sem])
     all_goals first | rfl | exact ⟨rfl, z0⟩ | trace_state
    ·intro s hs K hK
     have pok := pIns_ok rows part s
     simp only [prt3, prt2, List.cons_append, List.nil_append]
     repeat (first | (with_reducible first | refine Stp.up ?_ | refine fun (K : AK) hK => ?_ | refine wE ?_ | refine wK ?_ | refine wF ?_ | (refine hK _ ?_; clear hK K)) | simp only [go_sem] | with_reducible refine wA ?_ | clear hK K)
     refine AIf.part (fun h => ?_) (fun h => ?_)
     ·have hlt : s < rows.length := by (try simp only [bne_iff_ne, ne_eq, bne_eq_false_iff_eq, beq_iff_eq, beq_eq_false_iff_ne, decide_eq_true_eq, decide_eq_false_iff_not, Bool.not_eq_eq_eq_not, Int.natCast_inj, Int.ofNat_lt, Int.ofNat_le] at h); omega
      have eW := wrap_succ (k := s) (by omega)
      have eG : (encN part).getD s [] = [.v (.int .i64 ((part.getD s 0 : Nat) : Int))] := by
       rw [encN, List.getD_eq_getElem?_getD, List.getElem?_map, List.getElem?_eq_getElem (by omega), List.getD_eq_getElem?_getD, List.getElem?_eq_getElem (by omega)]; rfl
      have CI := itoa_c (part.getD s 0) (by have := getD_lt (by omega) hpl s; omega)
      have CS := steps_c rows ends s
      have hlr := ok.lab _ (List.getElem_mem hlt)
      have hln := ok.len _ (List.getElem_mem hlt)
      have hseq := steps_seq rows ends s hlt (by omega) (fun p hp => Nat.le_trans (hlr p hp).1 (by decide)) (ok.rise _ (List.getElem_mem hlt)) (by omega)
      simp only [gV, hE] at CS hseq
      obtain ⟨row, hrow⟩ : ∃ row, row = rows[s] := ⟨_, rfl⟩
      rw [← hrow] at hlr hln hseq
      have hq1 : part.getD s 0 < 1000 := getD_lt (by omega) hpl s
      repeat (first | (with_reducible first | refine Stp.up ?_ | refine fun (K : AK) hK => ?_ | refine wE ?_ | refine wK ?_ | refine wF ?_ | (refine hK _ ?_; clear hK K)) | simp only [go_sem, eG, h] | with_reducible refine wA ?_ | clear hK K)
      refine ACallV.one CI ?_
      repeat (first | (with_reducible first | refine Stp.up ?_ | refine fun (K : AK) hK => ?_ | refine wE ?_ | refine wK ?_ | refine wF ?_ | (refine hK _ ?_; clear hK K)) | simp only [go_sem] | with_reducible refine wA ?_ | clear hK K)
      refine ACallV.one CS ?_
      repeat (first | (with_reducible first | refine Stp.up ?_ | refine fun (K : AK) hK => ?_ | refine wE ?_ | refine wK ?_ | refine wF ?_ | (refine hK _ ?_; clear hK K)) | simp only [go_sem] | with_reducible refine wA ?_ | clear hK K)
      refine awp_rangeO hseq 58 (fun k => prt3 rows part s ++ [some ⟨9, 1, false, [[.v (.string (pKeyB part (part.getD s 0) (row.take k)))]]⟩]) (fun k => k ≤ row.length) (Nat.zero_le _) ?_ ?_ ?_ (by kernel_rfl) (by kernel_rfl) ?_ ?_ ?_
      ·repeat (first | (with_reducible first | refine Stp.up ?_ | refine fun (K : AK) hK => ?_ | refine wE ?_ | refine wK ?_ | refine wF ?_ | (refine hK _ ?_; clear hK K)) | simp only [go_sem] | with_reducible refine wA ?_ | clear hK K)
      ·simp only [wfL, AV.wf, wf_gR, wf_gE, Bool.and_self]
      ·simp only [prt3, prt2, List.cons_append, List.nil_append, List.take_zero, pKeyB_nil]
       (refine wk_mk ?_ ?_ ?_ <;> simp only [frm, List.foldl_cons, List.foldl_nil, List.replicate_succ, List.replicate_zero, WkT, WkO, AV.v.injEq, Value.int.injEq, Value.bool.injEq, Value.string.injEq, AV.vec.injEq, AV.ptr.injEq, true_or, or_true, false_or, or_false, AObj.mk.injEq, forall_eq_apply_imp_iff, forall_eq, forall_eq', go_sem])
       all_goals trace_state
      ·intro x hx
       obtain ⟨o, _, rfl⟩ := List.mem_map.1 hx
       rfl
      ·intro k x hk hx
       obtain ⟨hkl, hx⟩ : ∃ h : k < row.length, x = [.v (.string row[k].1), .v (.int .i64 (row[k].2 : Nat))] := by
        obtain ⟨h1, h2⟩ := List.getElem?_eq_some_iff.1 hx
        simp only [mRow, List.length_map] at h1
        exact ⟨h1, by rw [← h2]; simp [mRow]⟩
       subst hx
       obtain ⟨hz1, hz2⟩ := hlr _ (List.getElem_mem hkl)
       have eT : (encN part).getD row[k].2 [] = [.v (.int .i64 ((part.getD row[k].2 0 : Nat) : Int))] := by
        rw [encN, List.getD_eq_getElem?_getD, List.getElem?_map, List.getElem?_eq_getElem (by omega), List.getD_eq_getElem?_getD, List.getElem?_eq_getElem (by omega)]; rfl
       have hq2 : part.getD row[k].2 0 < 1000 := getD_lt (by omega) hpl _
       have CJ := itoa_c (part.getD row[k].2 0) (by omega)
       have hS := pKeyB_snoc part (part.getD s 0) (row.take k) row[k]
       rw [← List.take_succ_eq_append_getElem hkl] at hS
       simp only [prt3, prt2, List.cons_append, List.nil_append]
       have h32 : (⟨#[32]⟩ : ByteArray).size = 1 := rfl
       have hd1 := digs_sz _ hq2
       have hd2 := pKeyB_size part (part.getD s 0) hq1 (getD_lt (by omega) hpl) (row.take k) (fun e he => (hlr _ (List.mem_of_mem_take he)).1)
       rw [List.length_take] at hd2
       have b1 : (#[32] : Array UInt8).size = 1 := rfl
       have b2 : (Lib.decDigits (part.getD row[k].2 0)).toArray.size ≤ 3 := hd1
       repeat (first | (with_reducible first | refine Stp.up ?_ | refine fun (K : AK) hK => ?_ | refine wE ?_ | refine wK ?_ | refine wF ?_ | (refine hK _ ?_; clear hK K)) | simp only [go_sem, eT] | with_reducible refine wA ?_ | clear hK K)
       refine ACallS.one CJ ?_
       repeat (first | (with_reducible first | refine Stp.up ?_ | refine fun (K : AK) hK => ?_ | refine wE ?_ | refine wK ?_ | refine wF ?_ | (refine hK _ ?_; clear hK K)) | simp only [go_sem, eT] | with_reducible refine wA ?_ | clear hK K)
       simp only [prt3, prt2, List.cons_append, List.nil_append, hS]
       (refine wk_mk ?_ ?_ ?_ <;> simp only [frm, List.foldl_cons, List.foldl_nil, List.replicate_succ, List.replicate_zero, WkT, WkO, AV.v.injEq, Value.int.injEq, Value.bool.injEq, Value.string.injEq, AV.vec.injEq, AV.ptr.injEq, true_or, or_true, false_or, or_false, AObj.mk.injEq, forall_eq_apply_imp_iff, forall_eq, forall_eq', go_sem])
      ·intro _
       have hmr : (mRow row).length = row.length := by simp [mRow]
       simp only [hmr, List.take_length, prt3, prt2, List.cons_append, List.nil_append]
       have eA := aGet_k (pKeyB part (part.getD s 0) row) (pIns rows part s).1
       have hI := pIns_succ rows part s
       have hg : rows.getD s [] = row := by rw [hrow, List.getD_eq_getElem?_getD, List.getElem?_eq_getElem hlt]; rfl
       rw [pIn, hg] at hI
       have l2 := pok.len
       have l3 := pok.le
       rcases hps : pIns rows part s with ⟨ks, ns⟩
       rw [hps] at hI eA l2 l3
       simp only at hI eA l2 l3
       have eL : (encN (ns ++ List.replicate (rows.length - s) 0)).length = rows.length := by rw [encN, List.length_map, List.length_append, l2, List.length_replicate]; omega
       have eQ := getN ns rows.length s l2 hlt
       cases hp : pos ks (pKeyB part (part.getD s 0) row) with
       | some k =>
        rw [hp] at hI eA
        simp only [Option.map_some] at eA hI
        have eS := setN ns rows.length s k l2 hlt
        repeat (first | (with_reducible first | refine Stp.up ?_ | refine fun (K : AK) hK => ?_ | refine wE ?_ | refine wK ?_ | refine wF ?_ | (refine hK _ ?_; clear hK K)) | simp only [go_sem, eA, eL, eQ, List.drop_succ_cons, List.drop_zero, eS] | with_reducible refine wA ?_ | clear hK K)
        repeat (first | (with_reducible first | refine Stp.up ?_ | refine fun (K : AK) hK => ?_ | refine wE ?_ | refine wK ?_ | refine wF ?_ | (refine hK _ ?_; clear hK K)) | simp only [go_sem, eW] | with_reducible refine wA ?_ | clear hK K)
        refine LNext.mk (s + 1) (by omega) (by omega) ?_
        simp only [prt3, prt2, List.cons_append, List.nil_append, hI]
        (refine wk_mk ?_ ?_ ?_ <;> simp only [frm, List.foldl_cons, List.foldl_nil, List.replicate_succ, List.replicate_zero, WkT, WkO, AV.v.injEq, Value.int.injEq, Value.bool.injEq, Value.string.injEq, AV.vec.injEq, AV.ptr.injEq, true_or, or_true, false_or, or_false, AObj.mk.injEq, forall_eq_apply_imp_iff, forall_eq, forall_eq', go_sem])
       | none =>
        rw [hp] at hI eA
        simp only [Option.map_none] at eA hI
        have eS := setN ns rows.length s ks.length l2 hlt
        have eK := aSet_k (pKeyB part (part.getD s 0) row) ks hp
        have eM := knM_len ks
        repeat (first | (with_reducible first | refine Stp.up ?_ | refine fun (K : AK) hK => ?_ | refine wE ?_ | refine wK ?_ | refine wF ?_ | (refine hK _ ?_; clear hK K)) | simp only [go_sem, eA, eL, eQ, List.drop_succ_cons, List.drop_zero, eS, eK, eM] | with_reducible refine wA ?_ | clear hK K)
        repeat (first | (with_reducible first | refine Stp.up ?_ | refine fun (K : AK) hK => ?_ | refine wE ?_ | refine wK ?_ | refine wF ?_ | (refine hK _ ?_; clear hK K)) | simp only [go_sem, eW] | with_reducible refine wA ?_ | clear hK K)
        refine LNext.mk (s + 1) (by omega) (by omega) ?_
        simp only [prt3, prt2, List.cons_append, List.nil_append, hI]
        (refine wk_mk ?_ ?_ ?_ <;> simp only [frm, List.foldl_cons, List.foldl_nil, List.replicate_succ, List.replicate_zero, WkT, WkO, AV.v.injEq, Value.int.injEq, Value.bool.injEq, Value.string.injEq, AV.vec.injEq, AV.ptr.injEq, true_or, or_true, false_or, or_false, AObj.mk.injEq, forall_eq_apply_imp_iff, forall_eq, forall_eq', go_sem])
     ·have hss : s = rows.length := by (try simp only [bne_iff_ne, ne_eq, bne_eq_false_iff_eq, beq_iff_eq, beq_eq_false_iff_ne, decide_eq_true_eq, decide_eq_false_iff_not, Bool.not_eq_eq_eq_not, Int.natCast_inj, Int.ofNat_lt, Int.ofNat_le] at h); omega
      subst hss
      have l2 := pok.len
      have e1 : (pIns rows part rows.length).2 ++ List.replicate (rows.length - rows.length) 0 = pNext rows part := by rw [Nat.sub_self]; simp [pNext]
      have e2 := knM_len (pIns rows part rows.length).1
      have e3 : (pIns rows part rows.length).1.length = pMany rows part := rfl
      rw [e3] at e2
      have eL : (encN (pNext rows part)).length = rows.length := by rw [encN, List.length_map]; exact l2
      simp only [e1]
      have hme := pMany_le rows part
      have hmo := pMany_mono rows hpo
      repeat ((fail_if_success (with_reducible refine stopR (i := 26) ?_)); first | (with_reducible first | refine Stp.up ?_ | refine fun (K : AK) hK => ?_ | refine wK ?_ | refine wF ?_ | (refine hK _ ?_; clear hK K)) | simp only [go_sem] | with_reducible refine wA ?_ | clear hK K)
      clear hK; clear hK; clear K; clear K
      repeat ((fail_if_success (with_reducible refine stopR (i := 26) ?_)); first | (with_reducible first | refine Stp.up ?_ | refine fun (K : AK) hK => ?_ | refine wK ?_ | refine wF ?_ | (refine hK _ ?_; clear hK K)) | simp only [go_sem] | with_reducible refine wA ?_ | clear hK K)
      refine awp_turn (turn_frc (k := 1) (i := 0) (j := 0) (by decide) rfl (Nat.zero_lt_succ _) rfl rfl rfl rfl eL) (by kernel_rfl) ?_
      simp only [List.set_cons_zero, List.set_cons_succ]
      repeat (first | (with_reducible first | refine Stp.up ?_ | refine fun (K : AK) hK => ?_ | refine wE ?_ | refine wK ?_ | refine wF ?_ | (refine hK _ ?_; clear hK K)) | simp only [go_sem, e2] | with_reducible refine wA ?_ | clear hK K)
      refine AIf.part (fun h2 => ?_) (fun h2 => ?_)
      ·have hm : pMany rows part = many := by (try simp only [bne_iff_ne, ne_eq, bne_eq_false_iff_eq, beq_iff_eq, beq_eq_false_iff_ne, decide_eq_true_eq, decide_eq_false_iff_not, Bool.not_eq_eq_eq_not, Int.natCast_inj, Int.ofNat_lt, Int.ofNat_le] at h2); omega
       obtain ⟨f', rfl⟩ : ∃ f', f = f' + 1 := ⟨f - 1, by omega⟩
       rw [pRun, if_pos hm] at hfr
       repeat (first | (with_reducible first | refine Stp.up ?_ | refine fun (K : AK) hK => ?_ | refine wE ?_ | refine wK ?_ | refine wF ?_ | (refine hK _ ?_; clear hK K)) | simp only [go_sem] | with_reducible refine wA ?_ | clear hK K)
       rw [← hfr]
       exact FrzS.slcS (wf_encNN _ _)
      ·have hm : pMany rows part ≠ many := by (try simp only [bne_iff_ne, ne_eq, bne_eq_false_iff_eq, beq_iff_eq, beq_eq_false_iff_ne, decide_eq_true_eq, decide_eq_false_iff_not, Bool.not_eq_eq_eq_not, Int.natCast_inj, Int.ofNat_lt, Int.ofNat_le] at h2); omega
       obtain ⟨f', rfl⟩ : ∃ f', f = f' + 1 := ⟨f - 1, by omega⟩
       rw [pRun, if_neg hm] at hfr
       repeat (first | (with_reducible first | refine Stp.up ?_ | refine fun (K : AK) hK => ?_ | refine wE ?_ | refine wK ?_ | refine wF ?_ | (refine hK _ ?_; clear hK K)) | simp only [go_sem, e2] | with_reducible refine wA ?_ | clear hK K)
       refine LNext.mk (pNext rows part, pMany rows part) ⟨pNx_lt hN part, hme, pNext_on rows part, f', ?_, hfr⟩ ?_ ?_
       ·show rows.length + 2 ≤ f' + pMany rows part
        omega
       ·show rows.length + 1 - pMany rows part < rows.length + 1 - many
        omega
       ·simp only [prt2]
        (refine wk_mk ?_ ?_ ?_ <;> simp only [frm, List.foldl_cons, List.foldl_nil, List.replicate_succ, List.replicate_zero, WkT, WkO, AV.v.injEq, Value.int.injEq, Value.bool.injEq, Value.string.injEq, AV.vec.injEq, AV.ptr.injEq, true_or, or_true, false_or, or_false, AObj.mk.injEq, forall_eq_apply_imp_iff, forall_eq, forall_eq', go_sem])
end Go.Proofs.YtfflpdekojlnmaaDoor
