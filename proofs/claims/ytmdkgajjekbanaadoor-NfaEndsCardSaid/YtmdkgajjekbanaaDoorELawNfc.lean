/- kinescopelaw08: NfaSteps: the law and the walk. -/
import Derived.Test.YtmdkgajjekbanaaDoorEMat
import Derived.Test.YtmdkgajjekbanaaDoorEStep08
import Derived.Test.YtmdkgajjekbanaaDoorELentI
set_option linter.unusedSimpArgs false
set_option linter.unusedVariables false
namespace Go.Proofs.YtmdkgajjekbanaaDoor
open Go.RowKit

mutual
theorem sX_parts : ∀ (x : Ex) (d : Nat), sX x d ≤ 300 → (exParts x).length ≤ sX x d
 | .mk k s l, d, h => by
  rw [sX] at h ⊢
  split at h
  ·omega
  ·rename_i hd
   rw [if_neg hd]
   have := sL_parts l (d + 1) 1 h
   rw [exParts, List.length_cons]; omega
theorem sL_parts : ∀ (l : List Ex) (d n : Nat), sL l d n ≤ 300 → n + (exsParts l).length ≤ sL l d n
 | [], d, n, h => by rw [sL, exsParts]; simp
 | x :: xs, d, n, h => by
  rw [sL] at h ⊢
  split at h
  ·rename_i hn
   rw [if_pos hn]
   have h2 := sL_parts xs d (n + sX x d) h
   have h1 := sX_parts x d (by omega)
   rw [exsParts, List.length_append]; omega
  ·omega
end
theorem small_parts {x : Ex} (ko : x.ok) (h : sX x 0 ≤ 300) : (exParts x).length ≤ 1000000 ∧ ∀ z, z ∈ exParts x → z.kids.length ≤ 1000000 ∧ z.label.size ≤ 1000000000000000 := by
 have h1 := sX_parts x 0 h
 refine ⟨by omega, fun z hz => ⟨?_, ?_⟩⟩
 ·have h2 := parts_sub x z hz
  have h3 := kids_le z
  omega
 ·have := part_ok x ko z hz
  unfold okT at this; omega
theorem step_eq {x : Ex} (hr : exRight x = true) (l : List Int) (lab : ByteArray) : bitsM (stepM (newM x) (fromM (newM x) l) lab) = setN (labE x).length (stB x l lab) := by
 have L := newM_law hr
 have ok := L.ok
 have hl := L.labs
 refine rise_ext (bitsM_rise _) (setN_rise _ _) fun q => ?_
 rw [bitsM_mem, stepM_get ok, setN_mem]
 have key : ∀ (p : Nat), ((newM x).fs.getD p 0#32).getLsbD q = true ↔ (if p = 0 then Fst x 0 q else Fol x 0 p q) := fun p => by
  by_cases hp : p = 0
  ·subst hp; rw [if_pos rfl]; exact L.fst q
  ·rw [if_neg hp]; exact L.fol p q hp
 have frm : ∀ (p : Nat), (fromM (newM x) l).getLsbD p = true ↔ (p : Int) ∈ l ∧ p ≤ (labE x).length := fun p => by
  rw [fromM, fromM_get ok, hl]; simp
 constructor
 ·rintro ⟨p, h1, h2, h3⟩
  have hq := ok.fol p q h2
  rw [hl] at hq
  obtain ⟨hpl, hpn⟩ := (frm p).1 h1
  refine ⟨hq.1, hq.2, ?_⟩
  rw [stB, Bool.and_eq_true]
  constructor
  ·rw [frB, List.any_eq_true]
   refine ⟨p, hpl, ?_⟩
   have k := (key p).1 h2
   rw [frmB]
   by_cases hp : p = 0
   ·subst hp
    rw [if_pos rfl] at k
    rw [if_pos (show ((0 : Nat) : Int) = 0 from rfl), fstB_iff, show q - 1 + 1 = q by omega]; exact k
   ·rw [if_neg hp] at k
    rw [if_neg (by omega), if_pos ⟨by omega, by omega⟩, folB_iff, show q - 1 + 1 = q by omega, show (p : Int).toNat - 1 + 1 = p by omega]; exact k
  ·rw [labAt, if_pos ⟨by omega, by rw [hl]; omega⟩, hl, show ((q : Int) - 1).toNat = q - 1 by omega] at h3
   rw [beq_iff_eq]; exact h3
 ·rintro ⟨h1, h2, h3⟩
  rw [stB, Bool.and_eq_true, frB, List.any_eq_true] at h3
  obtain ⟨⟨p, hpl, hp⟩, h4⟩ := h3
  have hlab : (labAt (newM x) q).toList = lab.toList := by
   rw [labAt, if_pos ⟨by omega, by rw [hl]; omega⟩, hl, show ((q : Int) - 1).toNat = q - 1 by omega]
   rw [beq_iff_eq] at h4; exact h4
  rw [frmB] at hp
  by_cases hp0 : p = 0
  ·subst hp0
   rw [if_pos rfl, fstB_iff, show q - 1 + 1 = q by omega] at hp
   exact ⟨0, (frm 0).2 ⟨hpl, by omega⟩, (key 0).2 (by rw [if_pos rfl]; exact hp), hlab⟩
  ·rw [if_neg hp0] at hp
   by_cases hp1 : 0 < p ∧ p ≤ (labE x).length
   ·rw [if_pos hp1, folB_iff, show q - 1 + 1 = q by omega] at hp
    obtain ⟨j, rfl⟩ : ∃ j : Nat, p = (j : Int) := ⟨p.toNat, by omega⟩
    rw [show (j : Int).toNat - 1 + 1 = j by omega] at hp
    exact ⟨j, (frm j).2 ⟨hpl, by omega⟩, (key j).2 (by rw [if_neg (by omega)]; exact hp), hlab⟩
   ·rw [if_neg hp1] at hp; cases hp
set_option maxRecDepth 100000 in
set_option maxHeartbeats 8000000 in
theorem lawNfaSteps_c (x : Ex) (l : List Int) (s : ByteArray) (w : List ByteArray) (ko : x.ok) : Call1 Tryd.prog 4 [.agg (encE x), .slc 1 (l.map encI) l.length, .v (.string s), strsA w] (.v (.bool true)) := by
 have W := awake08_c
 have N := new_c x ko
 have Z := lsize08_c x 0 (by omega)
 have hi : wfR 0 (l.map encI) = true := wfR_map _ (fun _ => rfl) _
 have hs : wfR 0 (w.map encS) = true := wf_encS 0 _
 simp only [encE_eq, strsA] at N Z ⊢
 (refine Call1.enter Tryd.func4 rfl (by kernel_rfl) (by kernel_rfl) rfl (by simp only [go_sem, wfL, AV.wf, Bool.and_self, Bool.and_true, Bool.true_and, hi, hs]) (by simp only [go_sem, wfL, AV.wf, wf_encS, Bool.and_self, Bool.and_true, Bool.true_and, hi, hs]) ?_; simp only [Tryd.ntmps4, Tryd.results4, List.length_cons, List.length_nil, Nat.reduceAdd, Nat.reduceSub, List.replicate_succ, List.replicate_zero, List.cons_append, List.nil_append])
 repeat (first | (with_reducible first | refine Stp.up ?_ | refine fun (K : AK) hK => ?_ | (refine hK _ ?_; clear hK K)) | simp only [go_sem] | clear hK K)
 refine ACallV.one Z ?_
 rcases Bool.eq_false_or_eq_true (decide (300 < ((sX x 0 : Nat) : Int))) with hz | hz
 ·repeat (first | (with_reducible first | refine Stp.up ?_ | refine fun (K : AK) hK => ?_ | (refine hK _ ?_; clear hK K)) | simp only [go_sem, hz, Go.undef] | clear hK K)
  refine ACallV.one W ?_
  repeat (first | (with_reducible first | refine Stp.up ?_ | refine fun (K : AK) hK => ?_ | (refine hK _ ?_; clear hK K)) | simp only [go_sem] | clear hK K)
 rcases Bool.eq_false_or_eq_true (decide (40 < (l.length : Int))) with hl | hl
 ·repeat (first | (with_reducible first | refine Stp.up ?_ | refine fun (K : AK) hK => ?_ | (refine hK _ ?_; clear hK K)) | simp only [go_sem, hz, hl, Go.undef] | clear hK K)
  refine ACallV.one W ?_
  repeat (first | (with_reducible first | refine Stp.up ?_ | refine fun (K : AK) hK => ?_ | (refine hK _ ?_; clear hK K)) | simp only [go_sem] | clear hK K)
 rcases Bool.eq_false_or_eq_true (decide (40 < (w.length : Int))) with hw | hw
 ·repeat (first | (with_reducible first | refine Stp.up ?_ | refine fun (K : AK) hK => ?_ | (refine hK _ ?_; clear hK K)) | simp only [go_sem, hz, hl, hw, Go.undef] | clear hK K)
  refine ACallV.one W ?_
  repeat (first | (with_reducible first | refine Stp.up ?_ | refine fun (K : AK) hK => ?_ | (refine hK _ ?_; clear hK K)) | simp only [go_sem] | clear hK K)
 have hl' : l.length ≤ 40 := by have := of_decide_eq_false hl; omega
 have hw' : w.length ≤ 40 := by have := of_decide_eq_false hw; omega
 obtain ⟨p1, p2⟩ := small_parts ko (by have := of_decide_eq_false hz; omega)
 have M := new08_c x p1 p2
 simp only [encE_eq] at M
 rcases Bool.eq_false_or_eq_true (exRight x) with hr | hr
 rotate_left 1
 ·simp only [hr, Bool.false_eq_true, if_false, if_true] at N M
  repeat (first | (with_reducible first | refine Stp.up ?_ | refine fun (K : AK) hK => ?_ | (refine hK _ ?_; clear hK K)) | simp only [go_sem, hz, hl, hw, Go.undef] | clear hK K)
  refine ACallV.one N ?_
  repeat (first | (with_reducible first | refine Stp.up ?_ | refine fun (K : AK) hK => ?_ | (refine hK _ ?_; clear hK K)) | simp only [go_sem, hz, hl, hw, Go.undef] | clear hK K)
  refine ACallV.one M ?_
  repeat (first | (with_reducible first | refine Stp.up ?_ | refine fun (K : AK) hK => ?_ | (refine hK _ ?_; clear hK K)) | simp only [go_sem, hz, hl, hw, Go.undef] | clear hK K)
  refine ACallV.one W ?_
  repeat (first | (with_reducible first | refine Stp.up ?_ | refine fun (K : AK) hK => ?_ | (refine hK _ ?_; clear hK K)) | simp only [go_sem] | clear hK K)
 ·simp only [hr, Bool.false_eq_true, if_false, if_true] at N M
  have hn : (labE x).length ≤ 24 := lab_le hr
  have ok := (newM_law hr).ok
  have I := lentInts_c l (by omega)
  have T := lentTexts_c w (by omega)
  have KI := keptInts_c l (by omega)
  have KT := keptTexts_c w (by omega)
  have w1 : wfR 0 (l.map encI ++ marksOf markI) = true := by simp only [wfR_app, wf_mapI, wf_marksI, Bool.and_self]
  have w2 : wfR 0 (w.map encS ++ marksOf markT) = true := by simp only [wfR_app, wf_mapS, wf_marksT, Bool.and_self]
  have wn : wfL 0 (nfaV (newM x)) = true := by
   have := N.1.2
   simp only [AV.wf, wfL, Bool.and_true] at this
   exact this
  have S := (nStep_c ok l s (by omega)).le (args' := [.vp (nfaV (newM x)), .slc 1 (l.map encI ++ marksOf markI) l.length, .v (.string s)]) (by simp only [wfL, AV.wf, wn, w1, Bool.and_self]) (.cons (.refl _) (.cons (.rows (fun _ _ => .refl _)) (.cons (.refl _) .nil)))
  have TK := (nTakes_c ok w (by omega)).le (args' := [.vp (nfaV (newM x)), .slc 1 (w.map encS ++ marksOf markT) w.length]) (by simp only [wfL, AV.wf, wn, w2, Bool.and_self]) (.cons (.refl _) (.cons (.rows (fun _ _ => .refl _)) .nil))
  have S2 := rStep_c x l s (by omega) (by omega)
  have K2 := rTakes_c x w (by omega) p1 p2
  rw [step_eq hr] at S
  rw [takes_law hr] at TK
  have Q := sameInts_c (intsN (setN (labE x).length (stB x l s))) (intsN (setN (labE x).length (stB x l s))) (by rw [intsN_len]; have := setN_len (labE x).length (stB x l s); omega)
  simp only [intsA, ← encN_ints, intsN_len, decide_true] at Q
  simp only [strsA] at K2
  generalize hnv : nfaV (newM x) = nv at *
  generalize hrv : refV x = rv at *
  repeat (first | (with_reducible first | refine Stp.up ?_ | refine fun (K : AK) hK => ?_ | (refine hK _ ?_; clear hK K)) | simp only [go_sem, hz, hl, hw, Go.undef] | clear hK K)
  refine ACallV.one N ?_
  repeat (first | (with_reducible first | refine Stp.up ?_ | refine fun (K : AK) hK => ?_ | (refine hK _ ?_; clear hK K)) | simp only [go_sem, hz, hl, hw, Go.undef] | clear hK K)
  refine ACallV.one M ?_
  repeat (first | (with_reducible first | refine Stp.up ?_ | refine fun (K : AK) hK => ?_ | (refine hK _ ?_; clear hK K)) | simp only [go_sem, hz, hl, hw, Go.undef] | clear hK K)
  refine ACallV.one I ?_
  repeat (first | (with_reducible first | refine Stp.up ?_ | refine fun (K : AK) hK => ?_ | (refine hK _ ?_; clear hK K)) | simp only [go_sem] | clear hK K)
  refine ACallV.one T ?_
  repeat (first | (with_reducible first | refine Stp.up ?_ | refine fun (K : AK) hK => ?_ | (refine hK _ ?_; clear hK K)) | simp only [go_sem] | clear hK K)
  refine ACallV.one S ?_
  repeat (first | (with_reducible first | refine Stp.up ?_ | refine fun (K : AK) hK => ?_ | (refine hK _ ?_; clear hK K)) | simp only [go_sem] | clear hK K)
  refine ACallV.one S2 ?_
  repeat (first | (with_reducible first | refine Stp.up ?_ | refine fun (K : AK) hK => ?_ | (refine hK _ ?_; clear hK K)) | simp only [go_sem] | clear hK K)
  refine ACallV.one Q ?_
  repeat (first | (with_reducible first | refine Stp.up ?_ | refine fun (K : AK) hK => ?_ | (refine hK _ ?_; clear hK K)) | simp only [go_sem, Go.undef] | clear hK K)
  refine ACallV.one TK ?_
  repeat (first | (with_reducible first | refine Stp.up ?_ | refine fun (K : AK) hK => ?_ | (refine hK _ ?_; clear hK K)) | simp only [go_sem, Go.undef] | clear hK K)
  refine ACallV.one K2 ?_
  repeat (first | (with_reducible first | refine Stp.up ?_ | refine fun (K : AK) hK => ?_ | (refine hK _ ?_; clear hK K)) | simp only [go_sem, Go.undef, beq_self_eq_true] | clear hK K)
  refine ACallV.one KI ?_
  repeat (first | (with_reducible first | refine Stp.up ?_ | refine fun (K : AK) hK => ?_ | (refine hK _ ?_; clear hK K)) | simp only [go_sem, Go.undef] | clear hK K)
  refine ACallV.one KT ?_
  repeat (first | (with_reducible first | refine Stp.up ?_ | refine fun (K : AK) hK => ?_ | (refine hK _ ?_; clear hK K)) | simp only [go_sem, Go.undef] | clear hK K)
  refine ACallV.one W ?_
  repeat (first | (with_reducible first | refine Stp.up ?_ | refine fun (K : AK) hK => ?_ | (refine hK _ ?_; clear hK K)) | simp only [go_sem, Go.undef] | clear hK K)
end Go.Proofs.YtmdkgajjekbanaaDoor
