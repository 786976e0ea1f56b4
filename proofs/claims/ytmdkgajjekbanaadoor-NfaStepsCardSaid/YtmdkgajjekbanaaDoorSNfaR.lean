/- nfa in plain Lean: what New builds takes just the words of the expression. -/
import Derived.Test.YtmdkgajjekbanaaDoorSNfaW
import Derived.Test.YtmdkgajjekbanaaDoorProg
import Derived.Test.YtmdkgajjekbanaaDoorSBase2
import Derived.Test.YtmdkgajjekbanaaDoorSBeh
import Derived.Test.YtmdkgajjekbanaaDoorSAbsW
import Derived.Test.YtmdkgajjekbanaaDoorSLaw08
set_option linter.unusedSimpArgs false
set_option linter.unusedVariables false
namespace Go.Proofs.YtmdkgajjekbanaaDoor

structure NewLaw (x : Ex) (s : NSt) : Prop where
  labs : s.labs = labE x
  ok : NOk s
  fst : ∀ q, (s.fs.getD 0 0#32).getLsbD q = true ↔ Fst x 0 q
  fol : ∀ p q, p ≠ 0 → ((s.fs.getD p 0#32).getLsbD q = true ↔ Fol x 0 p q)
  lst : ∀ q, s.la.getLsbD q = true ↔ Lst x 0 q
  em : s.em = exEmpty x
theorem newM_law {x : Ex} (hr : exRight x = true) : NewLaw x (newM x) := by
  have hn := lab_le hr
  have B := bld_law x (st0 x) (by simp [st0]) (by simp [st0]; exact hn)
  have hz : ∀ p, (st0 x).fs.getD p 0#32 = 0#32 := fun p => by
    simp only [st0, List.getD_eq_getElem?_getD, List.getElem?_replicate]; split <;> rfl
  have hb : (st0 x).labs.length = 0 := rfl
  have hl : (newM x).labs = labE x := B.labs
  have hlen : (newM x).fs.length = 25 := by simp only [newM, List.length_set]; exact B.len
  have h0 : ∀ q, ((newM x).fs.getD 0 0#32).getLsbD q = true ↔ Fst x 0 q := fun q => by
    simp only [newM]
    rw [getD_set' (by rw [B.len]; decide), if_pos rfl, B.fst, hb]
  have hp : ∀ p q, p ≠ 0 → (((newM x).fs.getD p 0#32).getLsbD q = true ↔ Fol x 0 p q) := fun p q hp => by
    simp only [newM]
    rw [getD_set' (by rw [B.len]; decide), if_neg hp, B.fol, hb, hz]; simp
  have hla : ∀ q, (newM x).la.getLsbD q = true ↔ Lst x 0 q := fun q => by
    have := B.lst q; rw [hb] at this; exact this
  refine ⟨hl, ⟨hlen, by rw [hl]; exact hn, fun p q h => ?_, fun q h => ?_⟩, h0, hp, hla, ?_⟩
  · rw [hl]
    by_cases e : p = 0
    · subst e; have := Fst_range x ((h0 q).1 h); omega
    · have := (Fol_range x ((hp p q e).1 h)).2; omega
  · rw [hl]; have := Lst_range x ((hla q).1 h); omega
  · show (bld x (st0 x)).1.em = _
    rw [B.em]; simp [st0, emptyB, hr]
theorem run_get {s : NSt} (ok : NOk s) {q : Nat} : ∀ (w : List ByteArray) (m : BitVec 32), (w.foldl (stepM s) m).getLsbD q = true ↔ ∃ p, m.getLsbD p = true ∧ Chain (fun p q => (s.fs.getD p 0#32).getLsbD q = true) (fun p => labAt s p) p w q
  | [], m => by simp [Chain]
  | a :: w, m => by
    rw [List.foldl_cons, run_get ok w]
    constructor
    · rintro ⟨r, h1, h2⟩
      obtain ⟨p, k1, k2, k3⟩ := (stepM_get ok).1 h1
      exact ⟨p, k1, r, k2, toList_inj.1 (by simpa using k3), h2⟩
    · rintro ⟨p, k1, r, k2, rfl, h2⟩
      exact ⟨r, (stepM_get ok).2 ⟨p, k1, k2, rfl⟩, h2⟩
theorem takes_law {x : Ex} (hr : exRight x = true) (w : List ByteArray) : takesM (newM x) w = exTakes x w := by
  have N := newM_law hr
  have F := (right_fit hr).1
  by_cases h0 : w.length = 0
  · obtain rfl := List.eq_nil_of_length_eq_zero h0
    rw [takesM, if_pos h0, N.em, Bool.eq_iff_iff, exEmpty_iff F, exTakes_iff]; simp [hr]
  · rw [takesM, if_neg h0, Bool.eq_iff_iff, exTakes_iff]
    simp only [hr, true_and]
    have hw : w ≠ [] := fun e => h0 (by rw [e]; rfl)
    have hg : LabAt (labE x) 0 (fun p => labAt (newM x) p) := fun i a hi => by
      have hlt := (List.getElem?_eq_some_iff.1 hi).1
      show labAt (newM x) ((0 + 1 + i : Nat) : Int) = a
      rw [labAt, if_pos (by rw [N.labs]; omega), N.labs, List.getD_eq_getElem?_getD, show (((0 + 1 + i : Nat) : Int) - 1).toNat = i by omega, hi]; rfl
    rw [glu F hg hw]
    have h1 : (runM (newM x) w &&& (newM x).la != 0#32) = true ↔ ∃ q, (runM (newM x) w).getLsbD q = true ∧ (newM x).la.getLsbD q = true := by
      rw [bne_iff_ne]
      constructor
      · intro h
        by_cases hb : bitsM (runM (newM x) w &&& (newM x).la) = []
        · exact absurd (bitsM_nil hb) h
        · obtain ⟨q, hq⟩ := List.exists_mem_of_ne_nil _ hb
          have := bitsM_mem.1 hq
          rw [BitVec.getLsbD_and, Bool.and_eq_true] at this
          exact ⟨q, this⟩
      · rintro ⟨q, h1, h2⟩ e
        have : (runM (newM x) w &&& (newM x).la).getLsbD q = true := by rw [BitVec.getLsbD_and, h1, h2]; rfl
        rw [e] at this; simp at this
    rw [h1]
    cases w with
    | nil => exact absurd rfl hw
    | cons a v =>
      simp only [PathOf]
      have hst : ∀ p, (ofM 0).getLsbD p = true ↔ p = 0 := fun p => by rw [ofM_get, decide_eq_true_eq]; omega
      have hc : ∀ (v : List ByteArray) p q, p ≠ 0 → (Chain (fun p q => ((newM x).fs.getD p 0#32).getLsbD q = true) (fun p => labAt (newM x) p) p v q ↔ Chain (Fol x 0) (fun p => labAt (newM x) p) p v q) := fun v => by
        induction v with
        | nil => intro p q _; exact Iff.rfl
        | cons b v ih =>
          intro p q hp
          simp only [Chain]
          constructor
          · rintro ⟨r, k1, k2, k3⟩
            have k4 := (N.fol p r hp).1 k1
            have := (Fol_range x k4).2
            exact ⟨r, k4, k2, (ih r q (by omega)).1 k3⟩
          · rintro ⟨r, k1, k2, k3⟩
            have := (Fol_range x k1).2
            exact ⟨r, (N.fol p r hp).2 k1, k2, (ih r q (by omega)).2 k3⟩
      constructor
      · rintro ⟨q, h2, h3⟩
        obtain ⟨p, k1, r, k2, k3, k4⟩ := (run_get N.ok _ _).1 h2
        obtain rfl := (hst p).1 k1
        have k5 := (N.fst r).1 k2
        have := Fst_range x k5
        exact ⟨r, q, k5, k3, (hc v r q (by omega)).1 k4, (N.lst q).1 h3⟩
      · rintro ⟨r, q, k1, k2, k3, k4⟩
        have := Fst_range x k1
        exact ⟨q, (run_get N.ok _ _).2 ⟨0, (hst 0).2 rfl, r, (N.fst r).2 k1, k2, (hc v r q (by omega)).2 k3⟩, (N.lst q).2 k4⟩
end Go.Proofs.YtmdkgajjekbanaaDoor

namespace Go.Proofs.YtmdkgajjekbanaaDoor
open Go.RowKit

end Go.Proofs.YtmdkgajjekbanaaDoor

namespace Go.Proofs.YtmdkgajjekbanaaDoor
open Go.RowKit

def e0 : ByteArray := ⟨#[]⟩

def askA (nm : ByteArray) (l r o : Opd) : List AV := [.slc 8 [[.v (.string ⟨#[97]⟩), .v (.string ⟨#[98]⟩), .v (.bool false), .v (.string ⟨#[120]⟩), .v (.string nm), .v (.int .i64 0), .v (.string e0), .v (.slice none 0 0)]] 1, .slc 13 [encC ⟨3, l, r⟩] 1, .slc 6 [encO o] 1, .v (.int .i64 5), .v (.int .i64 1)]

theorem okS {s : ByteArray} (h : decide (s.size ≤ 100) = true) : okT s := by unfold okT; have := of_decide_eq_true h; omega

end Go.Proofs.YtmdkgajjekbanaaDoor

namespace Go.Proofs.YtmdkgajjekbanaaDoor
open Go.RowKit

section
variable {P : Program}
end
end Go.Proofs.YtmdkgajjekbanaaDoor

namespace Go.Proofs.YtmdkgajjekbanaaDoor
open Go.RowKit

def sA : ByteArray := ⟨#[97]⟩
def sB : ByteArray := ⟨#[98]⟩
def exE : Ex := .mk 4 e0 [.mk 2 e0 [.mk 1 sA [], .mk 1 sB []]]
def exEA : List AV := [.v (.int .i64 4), .v (.string e0), .slc 3 [[.v (.int .i64 2), .v (.string e0), .slc 3 [[.v (.int .i64 1), .v (.string sA), .v (.slice none 0 0)], [.v (.int .i64 1), .v (.string sB), .v (.slice none 0 0)]] 2]] 1]
theorem labA_le (s : ByteArray) : LeL [.v (.int .i64 1), .v (.string s), .v (.slice none 0 0)] (encE (.mk 1 s [])) := by
  simp only [encE_eq, Ex.kind, Ex.label, Ex.kids, List.map_nil, List.length_nil]
  exact .cons (.refl _) (.cons (.refl _) (.cons (.nil 3) .nil))
theorem exE_le : LeL exEA (encE exE) := by
  have h1 : LeL [.v (.int .i64 2), .v (.string e0), .slc 3 [[.v (.int .i64 1), .v (.string sA), .v (.slice none 0 0)], [.v (.int .i64 1), .v (.string sB), .v (.slice none 0 0)]] 2] (encE (.mk 2 e0 [.mk 1 sA [], .mk 1 sB []])) := by
    have := Le.rows (z := 3) (f := fun s => [.v (.int .i64 1), .v (.string s), .v (.slice none 0 0)]) (g := fun s => encE (.mk 1 s [])) (xs := [sA, sB]) (more := []) (fun x _ => labA_le x)
    simp only [encE_eq, Ex.kind, Ex.label, Ex.kids, List.map_nil, List.length_nil, List.map_cons, List.length_cons, List.append_nil, Nat.zero_add, Nat.reduceAdd] at this ⊢
    exact .cons (.refl _) (.cons (.refl _) (.cons this .nil))
  have := Le.rows (z := 3) (f := fun _ : Unit => [.v (.int .i64 2), .v (.string e0), .slc 3 [[.v (.int .i64 1), .v (.string sA), .v (.slice none 0 0)], [.v (.int .i64 1), .v (.string sB), .v (.slice none 0 0)]] 2]) (g := fun _ => encE (.mk 2 e0 [.mk 1 sA [], .mk 1 sB []])) (xs := [()]) (more := []) (fun x _ => h1)
  rw [exE, encE_eq]
  simp only [Ex.kind, Ex.label, Ex.kids, List.map_nil, List.length_nil, List.map_cons, List.length_cons, List.append_nil, Nat.zero_add, Nat.reduceAdd] at this ⊢
  exact .cons (.refl _) (.cons (.refl _) (.cons this .nil))
theorem exE_ok : exE.ok := by
  have h0 : okT e0 := okS (by rfl)
  have hA : okT sA := okS (by rfl)
  have hB : okT sB := okS (by rfl)
  simp only [exE, Ex.ok, exsOk]
  exact ⟨h0, ⟨h0, ⟨hA, trivial⟩, ⟨hB, trivial⟩, trivial⟩, trivial⟩

end Go.Proofs.YtmdkgajjekbanaaDoor

namespace Go.Proofs.YtmdkgajjekbanaaDoor
open Go.RowKit

theorem exE_st : (newM exE).labs.length = 2 ∧ (newM exE).fs.length = 25 ∧ bitsM ((newM exE).fs.getD 0 0#32) = [1] ∧ bitsM (newM exE).la = [2] ∧ folAt (newM exE) 1 = [2] ∧ folAt (newM exE) 2 = [1] ∧ (newM exE).em = true := by
  refine ⟨by kernel_rfl, by kernel_rfl, by kernel_rfl, by kernel_rfl, by kernel_rfl, by kernel_rfl, by kernel_rfl⟩
set_option maxRecDepth 100000 in
set_option maxHeartbeats 4000000 in
theorem awake08_c : Call1 Tryd.prog 9 [] (.v (.bool true)) := by
  obtain ⟨h1, h2, h3, h4, h5, h6, h7⟩ := exE_st
  have L1 := llabel08_c sA
  have L2 := llabel08_c sB
  have O1 := lof08_c 2 [[.v (.int .i64 1), .v (.string sA), .v (.slice none 0 0)], [.v (.int .i64 1), .v (.string sB), .v (.slice none 0 0)]] 2 rfl
  have O2 := lof08_c 4 [[.v (.int .i64 2), .v (.string e0), .slc 3 [[.v (.int .i64 1), .v (.string sA), .v (.slice none 0 0)], [.v (.int .i64 1), .v (.string sB), .v (.slice none 0 0)]] 2]] 1 rfl
  have N := (new_c exE exE_ok).le (args' := [.agg exEA]) rfl (.cons exE_le.agg .nil)
  rw [show exRight exE = true by kernel_rfl, if_pos rfl] at N
  have C1 := nLen_c (newM exE)
  have C2 := nFirst_c (newM exE) h2
  have C3 := nLast_c (newM exE) h2
  have C4 := nFollow_c (newM exE) 1 h2 (by omega)
  have C5 := nFollow_c (newM exE) 2 h2 (by omega)
  have C6 := nEmpty_c (newM exE) h2
  rw [h1, show ((2 : Nat) : Int) = 2 from rfl] at C1
  rw [h3] at C2
  rw [h4] at C3
  rw [h5] at C4
  rw [h6] at C5
  rw [h7] at C6
  have S1 := sameInts_c [1] [1] (by decide)
  have S2 := sameInts_c [2] [2] (by decide)
  simp only [exEA, e0, sA, sB] at L1 L2 O1 O2 N
  generalize nfaV (newM exE) = V at *
  (refine Call1.enter Tryd.func9 rfl (by kernel_rfl) (by kernel_rfl) rfl (by first | rfl | (simp only [go_sem, Bool.and_self, Bool.and_true, Bool.true_and])) (by first | rfl | (simp only [go_sem, Bool.and_self, Bool.and_true, Bool.true_and])) ?_; simp only [Tryd.ntmps9, Tryd.results9, List.length_cons, List.length_nil, Nat.reduceAdd, Nat.reduceSub, List.replicate_succ, List.replicate_zero, List.cons_append, List.nil_append])
  repeat (first | (with_reducible first | refine Stp.up ?_ | refine fun (K : AS → Prop) hK => ?_ | refine wE ?_ | refine wD ?_ | refine wK ?_ | refine wF ?_ | refine adrawG_k (by decide) ?_ | refine adrawG_e (by decide) ?_ | (refine hK _ ?_; clear hK; clear K)) | simp only [go_sem] | (with_reducible refine And.intro (by omega) ?_) | (clear hK; clear K))
  refine ACallV.one L1 ?_
  repeat (first | (with_reducible first | refine Stp.up ?_ | refine fun (K : AS → Prop) hK => ?_ | refine wE ?_ | refine wD ?_ | refine wK ?_ | refine wF ?_ | refine adrawG_k (by decide) ?_ | refine adrawG_e (by decide) ?_ | (refine hK _ ?_; clear hK; clear K)) | simp only [go_sem] | (with_reducible refine And.intro (by omega) ?_) | (clear hK; clear K))
  refine ACallV.one L2 ?_
  repeat (first | (with_reducible first | refine Stp.up ?_ | refine fun (K : AS → Prop) hK => ?_ | refine wE ?_ | refine wD ?_ | refine wK ?_ | refine wF ?_ | refine adrawG_k (by decide) ?_ | refine adrawG_e (by decide) ?_ | (refine hK _ ?_; clear hK; clear K)) | simp only [go_sem] | (with_reducible refine And.intro (by omega) ?_) | (clear hK; clear K))
  refine ACallV.give O1 rfl (by simp only [go_sem, Nat.reduceLT, Nat.reduceLeDiff, Nat.reduceEqDiff, Nat.lt_add_one, Nat.zero_lt_one, and_self]) ?_
  repeat (first | (with_reducible first | refine Stp.up ?_ | refine fun (K : AS → Prop) hK => ?_ | refine wE ?_ | refine wD ?_ | refine wK ?_ | refine wF ?_ | refine adrawG_k (by decide) ?_ | refine adrawG_e (by decide) ?_ | (refine hK _ ?_; clear hK; clear K)) | simp only [go_sem] | (with_reducible refine And.intro (by omega) ?_) | (clear hK; clear K))
  refine ACallV.give O2 rfl (by simp only [go_sem, Nat.reduceLT, Nat.reduceLeDiff, Nat.reduceEqDiff, Nat.lt_add_one, Nat.zero_lt_one, and_self]) ?_
  repeat (first | (with_reducible first | refine Stp.up ?_ | refine fun (K : AS → Prop) hK => ?_ | refine wE ?_ | refine wD ?_ | refine wK ?_ | refine wF ?_ | refine adrawG_k (by decide) ?_ | refine adrawG_e (by decide) ?_ | (refine hK _ ?_; clear hK; clear K)) | simp only [go_sem] | (with_reducible refine And.intro (by omega) ?_) | (clear hK; clear K))
  refine ACallV.one N ?_
  repeat (first | (with_reducible first | refine Stp.up ?_ | refine fun (K : AS → Prop) hK => ?_ | refine wE ?_ | refine wD ?_ | refine wK ?_ | refine wF ?_ | refine adrawG_k (by decide) ?_ | refine adrawG_e (by decide) ?_ | (refine hK _ ?_; clear hK; clear K)) | simp only [go_sem] | (with_reducible refine And.intro (by omega) ?_) | (clear hK; clear K))
  simp only [intsA, encI, encN, List.map_cons, List.map_nil, List.length_cons, List.length_nil, Nat.reduceAdd, decide_true] at C2 C3 C4 C5 S1 S2
  refine ACallV.one C1 ?_
  repeat (first | (with_reducible first | refine Stp.up ?_ | refine fun (K : AS → Prop) hK => ?_ | refine wE ?_ | refine wD ?_ | refine wK ?_ | refine wF ?_ | refine adrawG_k (by decide) ?_ | refine adrawG_e (by decide) ?_ | (refine hK _ ?_; clear hK; clear K)) | simp only [go_sem, Go.undef] | (with_reducible refine And.intro (by omega) ?_) | (clear hK; clear K))
  refine ACallV.one C2 ?_
  repeat (first | (with_reducible first | refine Stp.up ?_ | refine fun (K : AS → Prop) hK => ?_ | refine wE ?_ | refine wD ?_ | refine wK ?_ | refine wF ?_ | refine adrawG_k (by decide) ?_ | refine adrawG_e (by decide) ?_ | (refine hK _ ?_; clear hK; clear K)) | simp only [go_sem, Go.undef] | (with_reducible refine And.intro (by omega) ?_) | (clear hK; clear K))
  refine ACallV.give S1 rfl (by simp only [go_sem, Nat.reduceLT, Nat.reduceLeDiff, Nat.reduceEqDiff, Nat.lt_add_one, Nat.zero_lt_one, and_self]) ?_
  repeat (first | (with_reducible first | refine Stp.up ?_ | refine fun (K : AS → Prop) hK => ?_ | refine wE ?_ | refine wD ?_ | refine wK ?_ | refine wF ?_ | refine adrawG_k (by decide) ?_ | refine adrawG_e (by decide) ?_ | (refine hK _ ?_; clear hK; clear K)) | simp only [go_sem, Go.undef] | (with_reducible refine And.intro (by omega) ?_) | (clear hK; clear K))
  refine ACallV.one C3 ?_
  repeat (first | (with_reducible first | refine Stp.up ?_ | refine fun (K : AS → Prop) hK => ?_ | refine wE ?_ | refine wD ?_ | refine wK ?_ | refine wF ?_ | refine adrawG_k (by decide) ?_ | refine adrawG_e (by decide) ?_ | (refine hK _ ?_; clear hK; clear K)) | simp only [go_sem, Go.undef] | (with_reducible refine And.intro (by omega) ?_) | (clear hK; clear K))
  refine ACallV.give S2 rfl (by simp only [go_sem, Nat.reduceLT, Nat.reduceLeDiff, Nat.reduceEqDiff, Nat.lt_add_one, Nat.zero_lt_one, and_self]) ?_
  repeat (first | (with_reducible first | refine Stp.up ?_ | refine fun (K : AS → Prop) hK => ?_ | refine wE ?_ | refine wD ?_ | refine wK ?_ | refine wF ?_ | refine adrawG_k (by decide) ?_ | refine adrawG_e (by decide) ?_ | (refine hK _ ?_; clear hK; clear K)) | simp only [go_sem, Go.undef] | (with_reducible refine And.intro (by omega) ?_) | (clear hK; clear K))
  refine ACallV.one C4 ?_
  repeat (first | (with_reducible first | refine Stp.up ?_ | refine fun (K : AS → Prop) hK => ?_ | refine wE ?_ | refine wD ?_ | refine wK ?_ | refine wF ?_ | refine adrawG_k (by decide) ?_ | refine adrawG_e (by decide) ?_ | (refine hK _ ?_; clear hK; clear K)) | simp only [go_sem, Go.undef] | (with_reducible refine And.intro (by omega) ?_) | (clear hK; clear K))
  refine ACallV.give S2 rfl (by simp only [go_sem, Nat.reduceLT, Nat.reduceLeDiff, Nat.reduceEqDiff, Nat.lt_add_one, Nat.zero_lt_one, and_self]) ?_
  repeat (first | (with_reducible first | refine Stp.up ?_ | refine fun (K : AS → Prop) hK => ?_ | refine wE ?_ | refine wD ?_ | refine wK ?_ | refine wF ?_ | refine adrawG_k (by decide) ?_ | refine adrawG_e (by decide) ?_ | (refine hK _ ?_; clear hK; clear K)) | simp only [go_sem, Go.undef] | (with_reducible refine And.intro (by omega) ?_) | (clear hK; clear K))
  refine ACallV.one C5 ?_
  repeat (first | (with_reducible first | refine Stp.up ?_ | refine fun (K : AS → Prop) hK => ?_ | refine wE ?_ | refine wD ?_ | refine wK ?_ | refine wF ?_ | refine adrawG_k (by decide) ?_ | refine adrawG_e (by decide) ?_ | (refine hK _ ?_; clear hK; clear K)) | simp only [go_sem, Go.undef] | (with_reducible refine And.intro (by omega) ?_) | (clear hK; clear K))
  refine ACallV.give S1 rfl (by simp only [go_sem, Nat.reduceLT, Nat.reduceLeDiff, Nat.reduceEqDiff, Nat.lt_add_one, Nat.zero_lt_one, and_self]) ?_
  repeat (first | (with_reducible first | refine Stp.up ?_ | refine fun (K : AS → Prop) hK => ?_ | refine wE ?_ | refine wD ?_ | refine wK ?_ | refine wF ?_ | refine adrawG_k (by decide) ?_ | refine adrawG_e (by decide) ?_ | (refine hK _ ?_; clear hK; clear K)) | simp only [go_sem, Go.undef] | (with_reducible refine And.intro (by omega) ?_) | (clear hK; clear K))
  refine ACallV.one C6 ?_
  repeat (first | (with_reducible first | refine Stp.up ?_ | refine fun (K : AS → Prop) hK => ?_ | refine wE ?_ | refine wD ?_ | refine wK ?_ | refine wF ?_ | refine adrawG_k (by decide) ?_ | refine adrawG_e (by decide) ?_ | (refine hK _ ?_; clear hK; clear K)) | simp only [go_sem, Go.undef] | (with_reducible refine And.intro (by omega) ?_) | (clear hK; clear K))
end Go.Proofs.YtmdkgajjekbanaaDoor

namespace Go.Proofs.YtmdkgajjekbanaaDoor

def intsN (l : List Nat) : List Int := l.map (fun (p : Nat) => (p : Int))
theorem encN_ints (l : List Nat) : encN l = (intsN l).map encI := by rw [encN, intsN, List.map_map]; rfl
theorem intsN_len (l : List Nat) : (intsN l).length = l.length := by rw [intsN, List.length_map]
def anyB (a b : List Nat) : Bool := a.any (fun p => b.any (fun q => (q : Int) == (p : Int)))
end Go.Proofs.YtmdkgajjekbanaaDoor
