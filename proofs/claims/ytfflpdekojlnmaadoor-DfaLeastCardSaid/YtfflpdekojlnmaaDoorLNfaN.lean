/- nfa: Step, Takes. -/
import Derived.Test.YtfflpdekojlnmaaDoorLNfaS
set_option linter.unusedSimpArgs false
set_option linter.unusedVariables false
namespace Go.Proofs.YtfflpdekojlnmaaDoor
open Go.RowKit

structure NOk (s : NSt) : Prop where
 len : s.fs.length = 25
 n : s.labs.length ≤ 24
 fol : ∀ p q, (s.fs.getD p 0#32).getLsbD q = true → 1 ≤ q ∧ q ≤ s.labs.length
 la : ∀ q, s.la.getLsbD q = true → 1 ≤ q ∧ q ≤ s.labs.length
theorem foldOr_get {f : Nat → BitVec 32} {q : Nat} : ∀ (l : List Nat) (t : BitVec 32), (l.foldl (fun t p => t ||| f p) t).getLsbD q = true ↔ t.getLsbD q = true ∨ ∃ p ∈ l, (f p).getLsbD q = true
 | [], t => by simp
 | x :: l, t => by
  rw [List.foldl_cons, foldOr_get l, BitVec.getLsbD_or, Bool.or_eq_true]
  simp only [List.mem_cons, exists_eq_or_imp, or_assoc]
theorem outM_get {s : NSt} {l : List Nat} {q : Nat} : (outM s l).getLsbD q = true ↔ ∃ p ∈ l, (s.fs.getD p 0#32).getLsbD q = true := by
 rw [outM, foldOr_get]; simp
theorem keepM_get {s : NSt} {lab : ByteArray} {q : Nat} (hq : q ≤ 24) : ∀ (l : List Nat) (t : BitVec 32), (keepM s lab l t).getLsbD q = true ↔ t.getLsbD q = true ∧ (q ∈ l → ((labAt s q).toList == lab.toList) = true)
 | [], t => by simp [keepM]
 | x :: l, t => by
  rw [keepM, List.foldl_cons, ← keepM, keepM_get hq l, keepM1]
  split
  ·rename_i h
   simp only [List.mem_cons]
   constructor
   ·rintro ⟨h1, h2⟩; exact ⟨h1, fun hh => hh.elim (fun e => by rw [e]; exact h) h2⟩
   ·rintro ⟨h1, h2⟩; exact ⟨h1, fun hh => h2 (.inr hh)⟩
  ·rename_i h
   rw [BitVec.getLsbD_and, BitVec.getLsbD_not, ofM_get]
   simp only [List.mem_cons]
   constructor
   ·rintro ⟨h1, h2⟩
    simp only [Bool.and_eq_true, Bool.not_eq_true', decide_eq_false_iff_not, decide_eq_true_eq] at h1
    have hne : q ≠ x := fun e => h1.2.2 ⟨by omega, by omega, by omega⟩
    exact ⟨h1.1, fun hh => hh.elim (fun e => absurd e hne) h2⟩
   ·rintro ⟨h1, h2⟩
    have hne : q ≠ x := fun e => h (by rw [← e]; exact h2 (.inl e))
    refine ⟨?_, fun hh => h2 (.inr hh)⟩
    simp only [Bool.and_eq_true, Bool.not_eq_true', decide_eq_false_iff_not, decide_eq_true_eq]
    exact ⟨h1, by omega, fun hh => hne (by omega)⟩
theorem stepM_get {s : NSt} (ok : NOk s) {m : BitVec 32} {lab : ByteArray} {q : Nat} : (stepM s m lab).getLsbD q = true ↔ ∃ p, m.getLsbD p = true ∧ (s.fs.getD p 0#32).getLsbD q = true ∧ (labAt s q).toList = lab.toList := by
 have hb : ∀ q, (outM s (bitsM m)).getLsbD q = true → 1 ≤ q ∧ q ≤ s.labs.length := fun q h => by
  obtain ⟨p, _, h⟩ := outM_get.1 h; exact ok.fol p q h
 have sub : ∀ (l : List Nat) (t : BitVec 32), (keepM s lab l t).getLsbD q = true → t.getLsbD q = true := fun l => by
  induction l with
  | nil => intro t h; exact h
  | cons x l ih =>
   intro t h
   have := ih _ h
   rw [keepM1] at this
   split at this
   ·exact this
   ·rw [BitVec.getLsbD_and, Bool.and_eq_true] at this; exact this.1
 constructor
 ·intro h
  have h1 := sub _ _ h
  have h2 := hb q h1
  have h3 := ok.n
  have := ((keepM_get (by omega) _ _).1 h).2 (bitsM_mem.2 h1)
  obtain ⟨p, h4, h5⟩ := outM_get.1 h1
  exact ⟨p, bitsM_mem.1 h4, h5, by simpa using this⟩
 ·rintro ⟨p, h1, h2, h3⟩
  have h4 := ok.fol p q h2
  have h5 := ok.n
  exact (keepM_get (by omega) _ _).2 ⟨outM_get.2 ⟨p, bitsM_mem.2 h1, h2⟩, fun _ => by simpa using h3⟩
theorem step_ok {s : NSt} (ok : NOk s) (m : BitVec 32) (lab : ByteArray) (h1 : ∀ p ∈ bitsM m, p < 25) : Call1 Tryd.prog 50 [.vp (nfaV s), encM m, .v (.string lab)] (encM (stepM s m lab)) :=
 step_c s m lab ok.len ok.n h1 (fun p hp => by
  obtain ⟨q, _, h⟩ := outM_get.1 (bitsM_mem.1 hp)
  exact ok.fol _ _ h)
def fromM1 (s : NSt) (t : BitVec 32) (p : Int) : BitVec 32 := if p ≤ s.labs.length then t ||| ofM p else t
def fromM (s : NSt) (l : List Int) : BitVec 32 := l.foldl (fromM1 s) 0#32
theorem fromM_snoc (s : NSt) (l : List Int) (p : Int) : fromM s (l ++ [p]) = fromM1 s (fromM s l) p := by rw [fromM, List.foldl_append]; rfl
theorem fromM_get {s : NSt} (ok : NOk s) {q : Nat} : ∀ (l : List Int) (t : BitVec 32), (l.foldl (fromM1 s) t).getLsbD q = true ↔ t.getLsbD q = true ∨ ((q : Int) ∈ l ∧ q ≤ s.labs.length)
 | [], t => by simp
 | x :: l, t => by
  have hn := ok.n
  rw [List.foldl_cons, fromM_get ok l, fromM1, List.mem_cons]
  split
  ·rename_i h
   rw [BitVec.getLsbD_or, Bool.or_eq_true, ofM_get, decide_eq_true_eq]
   constructor
   ·rintro ((h | h) | h)
    ·exact .inl h
    ·exact .inr ⟨.inl h.2.2, by omega⟩
    ·exact .inr ⟨.inr h.1, h.2⟩
   ·rintro (h | ⟨h | h, h2⟩)
    ·exact .inl (.inl h)
    ·exact .inl (.inr ⟨by omega, by omega, h⟩)
    ·exact .inr ⟨h, h2⟩
  ·rename_i h
   constructor
   ·rintro (h | h)
    ·exact .inl h
    ·exact .inr ⟨.inr h.1, h.2⟩
   ·rintro (h | ⟨h | h, h2⟩)
    ·exact .inl h
    ·exfalso; omega
    ·exact .inr ⟨h, h2⟩
theorem fromM_lt {s : NSt} (ok : NOk s) (l : List Int) : ∀ p ∈ bitsM (fromM s l), p < 25 := fun p hp => by
 have := (fromM_get ok l 0#32).1 (bitsM_mem.1 hp)
 have := ok.n
 simp at *; omega
set_option maxRecDepth 100000 in
set_option maxHeartbeats 4000000 in
theorem nStep_c {s : NSt} (ok : NOk s) (l : List Int) (lab : ByteArray) (hl : l.length ≤ 1000000) : Call1 Tryd.prog 29 [.vp (nfaV s), .slc 1 (l.map encI) l.length, .v (.string lab)]
  (.slc 1 (encN (bitsM (stepM s (fromM s l) lab))) (bitsM (stepM s (fromM s l) lab)).length) := by
 have L := nLen_c s
 have S := step_ok ok (fromM s l) lab (fromM_lt ok l)
 have B := list_c (stepM s (fromM s l) lab)
 have O := fun p => of_c p
 have eZ : encM 0#32 = .v (.int .u32 0) := rfl
 generalize hR : stepM s (fromM s l) lab = R at *
 simp only [encM] at *
 (refine Call1.enter Tryd.func29 rfl (by kernel_rfl) (by kernel_rfl) rfl (by first | rfl | (simp only [go_sem, Bool.and_self, Bool.and_true, Bool.true_and])) (by first | rfl | (simp only [go_sem, Bool.and_self, Bool.and_true, Bool.true_and])) ?_; simp only [Tryd.ntmps29, Tryd.results29, List.length_cons, List.length_nil, Nat.reduceAdd, Nat.reduceSub, List.replicate_succ, List.replicate_zero, List.cons_append, List.nil_append])
 repeat (first | (with_reducible first | refine Stp.up ?_ | refine fun (K : AK) hK => ?_ | (refine hK _ ?_; clear hK K)) | simp only [go_sem] | with_reducible refine wA ?_ | clear hK K)
 refine awp_loopF (ι := Nat) (fun k => [(0, .vp (nfaV s)), (1, .slc 1 (l.map encI) l.length), (2, .v (.string lab)), (6, .v (.slice none 0 0)), (7, encM (fromM s (l.take k))), (12, .slc 1 (l.map encI) l.length), (13, .v (.int .i64 l.length)), (14, .v (.int .i64 k))]) (fun k => []) (fun k => l.length - k) (fun k => k ≤ l.length) 0 (by omega) ?_ ?_
 ·simp only [encM]
  (refine wk_mk ?_ ?_ ?_ <;> simp only [frm, List.foldl_cons, List.foldl_nil, List.replicate_succ, List.replicate_zero, WkT, WkO, AV.v.injEq, Value.int.injEq, Value.bool.injEq, Value.string.injEq, AV.vec.injEq, AV.ptr.injEq, true_or, or_true, false_or, or_false, AObj.mk.injEq, forall_eq_apply_imp_iff, forall_eq, forall_eq', go_sem])
  exact ⟨rfl, rfl⟩
 ·intro k hkl K hK
  simp only [encM]
  simp only [frm, List.foldl_cons, List.foldl_nil, List.replicate_succ, List.replicate_zero, go_sem]
  repeat (first | (with_reducible first | refine Stp.up ?_ | refine fun (K : AK) hK => ?_ | (refine hK _ ?_; clear hK K)) | simp only [go_sem] | with_reducible refine wA ?_ | clear hK K)
  refine AIf.part (fun h => ?_) (fun h => ?_)
  ·have hlt : k < l.length := by (try simp only [bne_iff_ne, ne_eq, bne_eq_false_iff_eq, beq_iff_eq, beq_eq_false_iff_ne, decide_eq_true_eq, decide_eq_false_iff_not, Bool.not_eq_eq_eq_not, Int.natCast_inj, Int.ofNat_lt, Int.ofNat_le] at h); omega
   have eG := getD_map encI l k [] hlt
   have eW := wrap_succ (k := k) (by omega)
   have hN := fromM_snoc s (l.take k) l[k]
   rw [← List.take_succ_eq_append_getElem hlt, fromM1] at hN
   have Ok := O l[k]
   simp only [encI] at eG
   repeat (first | (with_reducible first | refine Stp.up ?_ | refine fun (K : AK) hK => ?_ | (refine hK _ ?_; clear hK K)) | simp only [go_sem, eG] | with_reducible refine wA ?_ | clear hK K)
   refine ACallV.one L ?_
   repeat (first | (with_reducible first | refine Stp.up ?_ | refine fun (K : AK) hK => ?_ | (refine hK _ ?_; clear hK K)) | simp only [go_sem] | with_reducible refine wA ?_ | clear hK K)
   refine AIf.part (fun h => ?_) (fun h => ?_)
   ·rw [if_pos (by (try simp only [bne_iff_ne, ne_eq, bne_eq_false_iff_eq, beq_iff_eq, beq_eq_false_iff_ne, decide_eq_true_eq, decide_eq_false_iff_not, Bool.not_eq_eq_eq_not, Int.natCast_inj, Int.ofNat_lt, Int.ofNat_le] at h); omega)] at hN
    repeat (first | (with_reducible first | refine Stp.up ?_ | refine fun (K : AK) hK => ?_ | (refine hK _ ?_; clear hK K)) | simp only [go_sem] | with_reducible refine wA ?_ | clear hK K)
    refine ACallV.one Ok ?_
    repeat (first | (with_reducible first | refine Stp.up ?_ | refine fun (K : AK) hK => ?_ | (refine hK _ ?_; clear hK K)) | simp only [go_sem, msk_or] | with_reducible refine wA ?_ | clear hK K)
    refine LNext.mk (k + 1) (by omega) (by omega) ?_
    rw [hN]
    simp only [encM]
    (refine wk_mk ?_ ?_ ?_ <;> simp only [frm, List.foldl_cons, List.foldl_nil, List.replicate_succ, List.replicate_zero, WkT, WkO, AV.v.injEq, Value.int.injEq, Value.bool.injEq, Value.string.injEq, AV.vec.injEq, AV.ptr.injEq, true_or, or_true, false_or, or_false, AObj.mk.injEq, forall_eq_apply_imp_iff, forall_eq, forall_eq', go_sem])
    all_goals first | exact eW | skip
   ·rw [if_neg (by (try simp only [bne_iff_ne, ne_eq, bne_eq_false_iff_eq, beq_iff_eq, beq_eq_false_iff_ne, decide_eq_true_eq, decide_eq_false_iff_not, Bool.not_eq_eq_eq_not, Int.natCast_inj, Int.ofNat_lt, Int.ofNat_le] at h); omega)] at hN
    repeat (first | (with_reducible first | refine Stp.up ?_ | refine fun (K : AK) hK => ?_ | (refine hK _ ?_; clear hK K)) | simp only [go_sem] | with_reducible refine wA ?_ | clear hK K)
    refine LNext.mk (k + 1) (by omega) (by omega) ?_
    rw [hN]
    simp only [encM]
    (refine wk_mk ?_ ?_ ?_ <;> simp only [frm, List.foldl_cons, List.foldl_nil, List.replicate_succ, List.replicate_zero, WkT, WkO, AV.v.injEq, Value.int.injEq, Value.bool.injEq, Value.string.injEq, AV.vec.injEq, AV.ptr.injEq, true_or, or_true, false_or, or_false, AObj.mk.injEq, forall_eq_apply_imp_iff, forall_eq, forall_eq', go_sem])
    all_goals first | exact eW | skip
  ·have e1 : l.take k = l := List.take_of_length_le (by (try simp only [bne_iff_ne, ne_eq, bne_eq_false_iff_eq, beq_iff_eq, beq_eq_false_iff_ne, decide_eq_true_eq, decide_eq_false_iff_not, Bool.not_eq_eq_eq_not, Int.natCast_inj, Int.ofNat_lt, Int.ofNat_le] at h); omega)
   simp only [e1]
   repeat (first | (with_reducible first | refine Stp.up ?_ | refine fun (K : AK) hK => ?_ | (refine hK _ ?_; clear hK K)) | simp only [go_sem] | with_reducible refine wA ?_ | clear hK K)
   refine ACallV.one S ?_
   repeat (first | (with_reducible first | refine Stp.up ?_ | refine fun (K : AK) hK => ?_ | (refine hK _ ?_; clear hK K)) | simp only [go_sem] | with_reducible refine wA ?_ | clear hK K)
   refine ACallV.one B ?_
   repeat (first | (with_reducible first | refine Stp.up ?_ | refine fun (K : AK) hK => ?_ | (refine hK _ ?_; clear hK K)) | simp only [go_sem] | with_reducible refine wA ?_ | clear hK K)
   (refine AFz.of 40 rfl ?_; simp only [go_sem])
def runM (s : NSt) (w : List ByteArray) : BitVec 32 := w.foldl (stepM s) (ofM 0)
def takesM (s : NSt) (w : List ByteArray) : Bool := if w.length = 0 then s.em else runM s w &&& s.la != 0#32

end Go.Proofs.YtfflpdekojlnmaaDoor
