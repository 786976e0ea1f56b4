/- nfa.New. -/
import Derived.Test.YtfflpdekojlnmaaDoorLNfaN
set_option linter.unusedSimpArgs false
set_option linter.unusedVariables false
namespace Go.Proofs.YtfflpdekojlnmaaDoor
open Go.RowKit

theorem frzL_v {o : List (Option AObj)} : ∀ (L : List AV) (n : Nat), (∀ c ∈ L, ∃ x, c = .v x) → L.length + 2 ≤ n → ∃ p, aFrzL o n L = some (p, L) ∧ p
 | [], n + 1, _, _ => ⟨True, rfl, trivial⟩
 | a :: l, n + 2, hL, hn => by
  obtain ⟨x, rfl⟩ := hL a (by simp)
  obtain ⟨p, h1, h2⟩ := frzL_v (o := o) l (n + 1) (fun c hc => hL c (by simp [hc])) (by simp at hn; omega)
  exact ⟨((AV.v x).wf 0 = true) ∧ p, by rw [aFrzL, h1]; rfl, rfl, h2⟩
 | a :: l, 0, _, hn => by simp at hn
 | a :: l, 1, _, hn => by simp at hn
 | [], 0, _, hn => by simp at hn
def st0 (x : Ex) : NSt := ⟨[], List.replicate 25 0#32, 0#32, emptyB x⟩
def newM (x : Ex) : NSt := { (bld x (st0 x)).1 with fs := (bld x (st0 x)).1.fs.set 0 (bld x (st0 x)).2.1, la := (bld x (st0 x)).2.2 }
theorem lab_parts (x : Ex) : (labE x).length ≤ (exParts x).length := by
 induction x using Ex.ind with
 | h k s l ih =>
  have hl : ∀ m : List Ex, (∀ y ∈ m, (labE y).length ≤ (exParts y).length) → (labEs m).length ≤ (exsParts m).length := fun m => by
   induction m with
   | nil => intro _; simp [labEs, exsParts]
   | cons y m ihm =>
    intro h
    rw [labEs, exsParts, List.length_append, List.length_append]
    have h1 := h y (by simp)
    have h2 := ihm (fun z hz => h z (by simp [hz]))
    omega
  have := hl l ih
  rw [labE, exParts, List.length_cons]
  split
  ·simp
  ·omega
theorem lab_le {x : Ex} (h : exRight x = true) : (labE x).length ≤ 24 := by
 simp only [exRight, Bool.and_eq_true, decide_eq_true_eq] at h
 have := lab_parts x; omega
theorem new_frz (labs : List ByteArray) (f1 l1 : BitVec 32) (rest : List (BitVec 32)) (em : Bool) (hr : rest.length = 24) (o : List (Option AObj)) (h1 : o[1]? = some (some ⟨67, 28, false, [.vec 2 labs.length :: encM f1 :: (rest.map encM ++ [encM l1, .v (.bool em)])]⟩)) (h2 : o[2]? = some (some ⟨9, 1, true, labs.map encS⟩)) :
  AFz o (.tup [.ptr 1 0 28 0 0, .v (.int .i64 0)]) (.tup [.vp (nfaV ⟨labs, f1 :: rest, l1, em⟩), .v (.int .i64 0)]) := by
 obtain ⟨p, hp, hp'⟩ := frzL_v (o := o) (encM f1 :: (rest.map encM ++ [encM l1, .v (.bool em)])) 50 (fun c hc => by
  simp only [List.mem_cons, List.mem_append, List.mem_map, List.not_mem_nil, or_false] at hc
  rcases hc with rfl | ⟨y, _, rfl⟩ | rfl | rfl
  ·exact ⟨_, rfl⟩
  ·exact ⟨_, rfl⟩
  ·exact ⟨_, rfl⟩
  ·exact ⟨_, rfl⟩) (by simp [hr])
 have e1 : aFrz o 50 (.vec 2 labs.length) = some (True ∧ (labs.map encS).length = labs.length ∧ wfR 0 (labs.map encS) = true, .slc 1 (labs.map encS) labs.length) := by
  rw [aFrz, h2]; simp
 have e2 : aFrzL o 51 (.vec 2 labs.length :: encM f1 :: (rest.map encM ++ [encM l1, .v (.bool em)])) = some ((True ∧ (labs.map encS).length = labs.length ∧ wfR 0 (labs.map encS) = true) ∧ p, .slc 1 (labs.map encS) labs.length :: encM f1 :: (rest.map encM ++ [encM l1, .v (.bool em)])) := by
  rw [aFrzL, e1, hp]
 refine AFz.of 54 (p := ((((True ∧ (labs.map encS).length = labs.length ∧ wfR 0 (labs.map encS) = true) ∧ p) ∧ AObj.hl ⟨67, 28, false, [.vec 2 labs.length :: encM f1 :: (rest.map encM ++ [encM l1, .v (.bool em)])]⟩ = 0 ∧ 28 = 28 ∧ 0 < 1) ∧ (AV.v (.int .i64 0)).wf 0 = true ∧ True)) ?_ ⟨⟨⟨⟨trivial, by simp, wf_encS 0 labs⟩, hp'⟩, rfl, rfl, by decide⟩, rfl, trivial⟩
 rw [aFrz, aFrzL, aFrz, h1]
 simp only [List.getD_cons_zero, e2]
 rfl
set_option maxRecDepth 100000 in
set_option maxHeartbeats 4000000 in
theorem new_c (x : Ex) (ho : x.ok) : Call1 Tryd.prog 15 [.agg (encE x)] (if exRight x then .tup [.vp (nfaV (newM x)), .v (.int .i64 0)] else .tup [.v (.pointer none), .v (.int .i64 2)]) := by
 have R := exRight_c x ho
 have E := Empty_c x ho
 cases hr : exRight x
 ·rw [hr] at R
  simp only [Bool.false_eq_true, if_false]
  simp only [encE_eq] at *
  (refine Call1.enter Tryd.func15 rfl (by kernel_rfl) (by kernel_rfl) rfl (by first | rfl | (simp only [go_sem, Bool.and_self, Bool.and_true, Bool.true_and])) (by first | rfl | (simp only [go_sem, Bool.and_self, Bool.and_true, Bool.true_and])) ?_; simp only [Tryd.ntmps15, Tryd.results15, List.length_cons, List.length_nil, Nat.reduceAdd, Nat.reduceSub, List.replicate_succ, List.replicate_zero, List.cons_append, List.nil_append])
  repeat (first | (with_reducible first | refine Stp.up ?_ | refine fun (K : AK) hK => ?_ | refine adrawG_k (by decide) ?_ | (refine hK _ ?_; clear hK K)) | simp only [go_sem] | with_reducible refine wA ?_ | (refine adrawG_l rfl ?_) | (refine adrawG_eL rfl ?_) | clear hK K)
  refine ACallV.one R ?_
  repeat (first | (with_reducible first | refine Stp.up ?_ | refine fun (K : AK) hK => ?_ | refine adrawG_k (by decide) ?_ | (refine hK _ ?_; clear hK K)) | simp only [go_sem] | with_reducible refine wA ?_ | (refine adrawG_l rfl ?_) | (refine adrawG_eL rfl ?_) | clear hK K)
  (refine AFz.of 40 rfl ?_; simp only [go_sem])
 ·rw [hr] at R
  simp only [if_true]
  have hnl : (labE x).length ≤ 24 := lab_le hr
  have P := part_e x ho hr (st0 x) (by simp [st0]) (by simp [st0]; exact hnl)
  have B := bld_law x (st0 x) (by simp [st0]) (by simp [st0]; exact hnl)
  simp only [newM]
  generalize bld x (st0 x) = b at *
  simp only [encE_eq] at *
  (refine Call1.enter Tryd.func15 rfl (by kernel_rfl) (by kernel_rfl) rfl (by first | rfl | (simp only [go_sem, Bool.and_self, Bool.and_true, Bool.true_and])) (by first | rfl | (simp only [go_sem, Bool.and_self, Bool.and_true, Bool.true_and])) ?_; simp only [Tryd.ntmps15, Tryd.results15, List.length_cons, List.length_nil, Nat.reduceAdd, Nat.reduceSub, List.replicate_succ, List.replicate_zero, List.cons_append, List.nil_append])
  repeat (first | (with_reducible first | refine Stp.up ?_ | refine fun (K : AK) hK => ?_ | refine adrawG_k (by decide) ?_ | (refine hK _ ?_; clear hK K)) | simp only [go_sem] | with_reducible refine wA ?_ | (refine adrawG_l rfl ?_) | (refine adrawG_eL rfl ?_) | clear hK K)
  refine ACallV.one R ?_
  repeat (first | (with_reducible first | refine Stp.up ?_ | refine fun (K : AK) hK => ?_ | refine adrawG_k (by decide) ?_ | (refine hK _ ?_; clear hK K)) | simp only [go_sem] | with_reducible refine wA ?_ | (refine adrawG_l rfl ?_) | (refine adrawG_eL rfl ?_) | clear hK K)
  refine ACallV.one E ?_
  repeat ((fail_if_success (with_reducible refine stopR (i := 4) ?_)); first | (with_reducible first | refine Stp.up ?_ | refine fun (K : AK) hK => ?_ | refine adrawG_k (by decide) ?_ | (refine hK _ ?_; clear hK K)) | simp only [go_sem] | with_reducible refine wA ?_ | (refine adrawG_l rfl ?_) | (refine adrawG_eL rfl ?_) | clear hK K)
  refine awp_turn (turn_cell (k := 1) (i := 0) (j := 0) 9 1 (by decide) rfl (show 0 < 28 by decide) rfl rfl) (by kernel_rfl) ?_
  simp only [List.length_cons, List.length_nil, Nat.reduceAdd, List.cons_append, List.nil_append, List.set_cons_zero, List.set_cons_succ]
  repeat ((fail_if_success (with_reducible refine stopR (i := 5) ?_)); first | (with_reducible first | refine Stp.up ?_ | refine fun (K : AK) hK => ?_ | refine adrawG_k (by decide) ?_ | (refine hK _ ?_; clear hK K)) | simp only [go_sem] | with_reducible refine wA ?_ | (refine adrawG_l rfl ?_) | (refine adrawG_eL rfl ?_) | clear hK K)
  have wE : wfL 2 [.ptr 0 0 28 0 0, .agg [.v (.int .i64 x.kind), .v (.string x.label), .slc 3 (x.kids.map encE) x.kids.length]] = true := by simp only [wfL, AV.wf, wf_encE, Bool.and_self, Bool.true_and]; rfl
  refine ACallV.fr [1, 2] P (by decide) rfl ?_ wE ?_ ?_
  ·simp only [renL, AV.ren, renR_wf0 _ _ (wf_encE 0 x.kids)]; rfl
  ·intro i ob hi
   match i, hi with
   | 0, hi => cases hi; rfl
   | 1, hi => cases hi; rfl
   | i + 2, hi => simp [NSt.os] at hi
  simp only [NSt.os, NSt.row, encM, putO, List.map_cons, List.map_nil, Option.map_some, AObj.ren, renR, renL, AV.ren, ren_nfa, renR_encS, List.length_cons, List.length_nil, List.set_cons_zero, List.set_cons_succ, List.append_nil]
  have e1 : sig [1, 2] 3 1 = 2 := rfl
  simp only [Nat.reduceAdd, e1]
  obtain ⟨⟨labs, fs, la, em⟩, f1, l1⟩ := b
  obtain ⟨f0, rest, rfl⟩ : ∃ f0 rest, fs = f0 :: rest := by
   cases fs with
   | nil => have := B.len; simp at this
   | cons a r => exact ⟨a, r, rfl⟩
  have hr24 : rest.length = 24 := by have := B.len; simpa using this
  have t24 : List.take 24 (rest.map encM ++ [.v (.int .u32 la.toNat), .v (.bool em)]) = rest.map encM := by rw [List.take_append_of_le_length (by simp [hr24]), List.take_of_length_le (by simp [hr24])]
  have d25 : List.drop 25 (rest.map encM ++ [.v (.int .u32 la.toNat), .v (.bool em)]) = [.v (.bool em)] := by
   rw [show 25 = (rest.map encM).length + 1 by simp [hr24], List.drop_append]; simp
  simp only [List.map_cons, encM, List.cons_append]
  repeat ((fail_if_success (with_reducible refine stopR (i := 5) ?_)); first | (with_reducible first | refine Stp.up ?_ | refine fun (K : AK) hK => ?_ | refine adrawG_k (by decide) ?_ | (refine hK _ ?_; clear hK K)) | simp only [go_sem] | with_reducible refine wA ?_ | (refine adrawG_l rfl ?_) | (refine adrawG_eL rfl ?_) | clear hK K)
  refine awp_drawG [9, 12] [(5, 1000)] (by decide +kernel) (by kernel_rfl) ?_
  repeat (first | (with_reducible first | refine Stp.up ?_ | refine fun (K : AK) hK => ?_ | refine adrawG_k (by decide) ?_ | (refine hK _ ?_; clear hK K)) | simp only [go_sem, t24, d25] | with_reducible refine wA ?_ | (refine adrawG_l rfl ?_) | (refine adrawG_eL rfl ?_) | clear hK K)
  refine new_frz labs f1 l1 rest em hr24 _ rfl rfl
end Go.Proofs.YtfflpdekojlnmaaDoor

namespace Go.Proofs.YtfflpdekojlnmaaDoor

structure NewLaw (x : Ex) (s : NSt) : Prop where
 labs : s.labs = labE x
 ok : NOk s
 fst : ∀ q, (s.fs.getD 0 0#32).getLsbD q = true ↔ Fst x 0 q
 fol : ∀ p q, p ≠ 0 → ((s.fs.getD p 0#32).getLsbD q = true ↔ Fol x 0 p q)
 lst : ∀ q, s.la.getLsbD q = true ↔ Lst x 0 q
 em : s.em = exEmpty x
theorem newM_law {x : Ex} (hr : exRight x = true) : NewLaw x (newM x) := by
 have hn := lab_le hr
 have B := bld_law x (st0 x) (by simp [st0]) (by simp [st0]; exact hn)
 have hz : ∀ p, (st0 x).fs.getD p 0#32 = 0#32 := fun p => by
  simp only [st0, List.getD_eq_getElem?_getD, List.getElem?_replicate]; split <;> rfl
 have hb : (st0 x).labs.length = 0 := rfl
 have hl : (newM x).labs = labE x := B.labs
 have hlen : (newM x).fs.length = 25 := by simp only [newM, List.length_set]; exact B.len
 have h0 : ∀ q, ((newM x).fs.getD 0 0#32).getLsbD q = true ↔ Fst x 0 q := fun q => by
  simp only [newM]
  rw [getD_set' (by rw [B.len]; decide), if_pos rfl, B.fst, hb]
 have hp : ∀ p q, p ≠ 0 → (((newM x).fs.getD p 0#32).getLsbD q = true ↔ Fol x 0 p q) := fun p q hp => by
  simp only [newM]
  rw [getD_set' (by rw [B.len]; decide), if_neg hp, B.fol, hb, hz]; simp
 have hla : ∀ q, (newM x).la.getLsbD q = true ↔ Lst x 0 q := fun q => by
  have := B.lst q; rw [hb] at this; exact this
 refine ⟨hl, ⟨hlen, by rw [hl]; exact hn, fun p q h => ?_, fun q h => ?_⟩, h0, hp, hla, ?_⟩
 ·rw [hl]
  by_cases e : p = 0
  ·subst e; have := Fst_range x ((h0 q).1 h); omega
  ·have := (Fol_range x ((hp p q e).1 h)).2; omega
 ·rw [hl]; have := Lst_range x ((hla q).1 h); omega
 ·show (bld x (st0 x)).1.em = _
  rw [B.em]; simp [st0, emptyB, hr]
theorem run_get {s : NSt} (ok : NOk s) {q : Nat} : ∀ (w : List ByteArray) (m : BitVec 32), (w.foldl (stepM s) m).getLsbD q = true ↔ ∃ p, m.getLsbD p = true ∧ Chain (fun p q => (s.fs.getD p 0#32).getLsbD q = true) (fun p => labAt s p) p w q
 | [], m => by simp [Chain]
 | a :: w, m => by
  rw [List.foldl_cons, run_get ok w]
  constructor
  ·rintro ⟨r, h1, h2⟩
   obtain ⟨p, k1, k2, k3⟩ := (stepM_get ok).1 h1
   exact ⟨p, k1, r, k2, toList_inj.1 (by simpa using k3), h2⟩
  ·rintro ⟨p, k1, r, k2, rfl, h2⟩
   exact ⟨r, (stepM_get ok).2 ⟨p, k1, k2, rfl⟩, h2⟩
theorem takes_law {x : Ex} (hr : exRight x = true) (w : List ByteArray) : takesM (newM x) w = exTakes x w := by
 have N := newM_law hr
 have F := (right_fit hr).1
 by_cases h0 : w.length = 0
 ·obtain rfl := List.eq_nil_of_length_eq_zero h0
  rw [takesM, if_pos h0, N.em, Bool.eq_iff_iff, exEmpty_iff F, exTakes_iff]; simp [hr]
 ·rw [takesM, if_neg h0, Bool.eq_iff_iff, exTakes_iff]
  simp only [hr, true_and]
  have hw : w ≠ [] := fun e => h0 (by rw [e]; rfl)
  have hg : LabAt (labE x) 0 (fun p => labAt (newM x) p) := fun i a hi => by
   have hlt := (List.getElem?_eq_some_iff.1 hi).1
   show labAt (newM x) ((0 + 1 + i : Nat) : Int) = a
   rw [labAt, if_pos (by rw [N.labs]; omega), N.labs, List.getD_eq_getElem?_getD, show (((0 + 1 + i : Nat) : Int) - 1).toNat = i by omega, hi]; rfl
  rw [glu F hg hw]
  have h1 : (runM (newM x) w &&& (newM x).la != 0#32) = true ↔ ∃ q, (runM (newM x) w).getLsbD q = true ∧ (newM x).la.getLsbD q = true := by
   rw [bne_iff_ne]
   constructor
   ·intro h
    by_cases hb : bitsM (runM (newM x) w &&& (newM x).la) = []
    ·exact absurd (bitsM_nil hb) h
    ·obtain ⟨q, hq⟩ := List.exists_mem_of_ne_nil _ hb
     have := bitsM_mem.1 hq
     rw [BitVec.getLsbD_and, Bool.and_eq_true] at this
     exact ⟨q, this⟩
   ·rintro ⟨q, h1, h2⟩ e
    have : (runM (newM x) w &&& (newM x).la).getLsbD q = true := by rw [BitVec.getLsbD_and, h1, h2]; rfl
    rw [e] at this; simp at this
  rw [h1]
  cases w with
  | nil => exact absurd rfl hw
  | cons a v =>
   simp only [PathOf]
   have hst : ∀ p, (ofM 0).getLsbD p = true ↔ p = 0 := fun p => by rw [ofM_get, decide_eq_true_eq]; omega
   have hc : ∀ (v : List ByteArray) p q, p ≠ 0 → (Chain (fun p q => ((newM x).fs.getD p 0#32).getLsbD q = true) (fun p => labAt (newM x) p) p v q ↔ Chain (Fol x 0) (fun p => labAt (newM x) p) p v q) := fun v => by
    induction v with
    | nil => intro p q _; exact Iff.rfl
    | cons b v ih =>
     intro p q hp
     simp only [Chain]
     constructor
     ·rintro ⟨r, k1, k2, k3⟩
      have k4 := (N.fol p r hp).1 k1
      have := (Fol_range x k4).2
      exact ⟨r, k4, k2, (ih r q (by omega)).1 k3⟩
     ·rintro ⟨r, k1, k2, k3⟩
      have := (Fol_range x k1).2
      exact ⟨r, (N.fol p r hp).2 k1, k2, (ih r q (by omega)).2 k3⟩
   constructor
   ·rintro ⟨q, h2, h3⟩
    obtain ⟨p, k1, r, k2, k3, k4⟩ := (run_get N.ok _ _).1 h2
    obtain rfl := (hst p).1 k1
    have k5 := (N.fst r).1 k2
    have := Fst_range x k5
    exact ⟨r, q, k5, k3, (hc v r q (by omega)).1 k4, (N.lst q).1 h3⟩
   ·rintro ⟨r, q, k1, k2, k3, k4⟩
    have := Fst_range x k1
    exact ⟨q, (run_get N.ok _ _).2 ⟨0, (hst 0).2 rfl, r, (N.fst r).2 k1, k2, (hc v r q (by omega)).2 k3⟩, (N.lst q).2 k4⟩
end Go.Proofs.YtfflpdekojlnmaaDoor

namespace Go.Proofs.YtfflpdekojlnmaaDoor

theorem bits_eq {m n : BitVec 32} (h : ∀ q, m.getLsbD q = true ↔ n.getLsbD q = true) : m = n := by
 refine BitVec.eq_of_getLsbD_eq fun q _ => ?_
 exact Bool.eq_iff_iff.2 (h q)
def intsN (l : List Nat) : List Int := l.map (fun (p : Nat) => (p : Int))
theorem encN_ints (l : List Nat) : encN l = (intsN l).map encI := by rw [encN, intsN, List.map_map]; rfl
theorem intsN_len (l : List Nat) : (intsN l).length = l.length := by rw [intsN, List.length_map]
theorem fromM_bits {s : NSt} (ok : NOk s) {m : BitVec 32} (h : ∀ p, m.getLsbD p = true → p ≤ s.labs.length) : fromM s (intsN (bitsM m)) = m := by
 refine bits_eq fun q => ?_
 rw [fromM, fromM_get ok, intsN]
 simp only [BitVec.getLsbD_zero, Bool.false_eq_true, false_or, List.mem_map, Int.natCast_inj, exists_eq_right, bitsM_mem]
 exact ⟨fun h => h.1, fun k => ⟨k, h q k⟩⟩
theorem ofM0_get {p : Nat} : (ofM 0).getLsbD p = true ↔ p = 0 := by rw [ofM_get, decide_eq_true_eq]; omega
def anyB (a b : List Nat) : Bool := a.any (fun p => b.any (fun q => (q : Int) == (p : Int)))
theorem anyB_iff {a b : List Nat} : anyB a b = true ↔ ∃ p, p ∈ a ∧ p ∈ b := by
 simp only [anyB, List.any_eq_true, beq_iff_eq, Int.natCast_inj]
 constructor
 ·rintro ⟨p, h1, q, h2, rfl⟩; exact ⟨q, h1, h2⟩
 ·rintro ⟨p, h1, h2⟩; exact ⟨p, h1, p, h2, rfl⟩
theorem and_any (m n : BitVec 32) : (m &&& n != 0#32) = anyB (bitsM m) (bitsM n) := by
 rw [Bool.eq_iff_iff, anyB_iff, bne_iff_ne]
 simp only [bitsM_mem]
 constructor
 ·intro h
  by_cases hb : bitsM (m &&& n) = []
  ·exact absurd (bitsM_nil hb) h
  ·obtain ⟨q, hq⟩ := List.exists_mem_of_ne_nil _ hb
   have := bitsM_mem.1 hq
   rw [BitVec.getLsbD_and, Bool.and_eq_true] at this
   exact ⟨q, this⟩
 ·rintro ⟨q, h1, h2⟩ e
  have : (m &&& n).getLsbD q = true := by rw [BitVec.getLsbD_and, h1, h2]; rfl
  rw [e] at this; simp at this
theorem ends_law {s : NSt} (ok : NOk s) (w : List ByteArray) : ((w.length == 0 && s.em) || anyB (bitsM (runM s w)) (bitsM s.la)) = takesM s w := by
 rw [takesM, ← and_any]
 by_cases h0 : w.length = 0
 ·rw [if_pos h0, h0]
  obtain rfl := List.eq_nil_of_length_eq_zero h0
  have : (runM s [] &&& s.la != 0#32) = false := by
   rw [and_any, ← Bool.not_eq_true, anyB_iff]
   rintro ⟨p, h1, h2⟩
   have h3 := ofM0_get.1 (bitsM_mem.1 h1)
   have := ok.la p (bitsM_mem.1 h2)
   omega
  rw [this]; simp
 ·rw [if_neg h0, beq_eq_false_iff_ne.2 h0]; simp
theorem fst_some {x : Ex} (h : Fit x) : ∀ b, ∃ q, Fst x b q := by
 induction h with
 | lab s => intro b; exact ⟨b + 1, by rw [Fst, if_pos rfl]⟩
 | many k s l hk hl _ ih =>
  intro b
  cases l with
  | nil => simp at hl
  | cons x l =>
   obtain ⟨q, hq⟩ := ih x (by simp) b
   refine ⟨q, ?_⟩
   rw [Fst]
   rcases hk with rfl | rfl
   ·simp [FstS, hq]
   ·simp [FstA, hq]
 | one k s x hk _ ih =>
  intro b
  obtain ⟨q, hq⟩ := ih b
  refine ⟨q, ?_⟩
  rw [Fst]
  rcases hk with rfl | rfl | rfl <;> simp [FstA, hq]
end Go.Proofs.YtfflpdekojlnmaaDoor
