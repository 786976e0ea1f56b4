/- nfa in plain Lean: what New builds takes just the words of the expression. -/
import Derived.Test.YtmdkgajjekbanaaDoorELaw08
import Derived.Test.YtmdkgajjekbanaaDoorProg
import Derived.Test.YtmdkgajjekbanaaDoorEBase2
import Derived.Test.YtmdkgajjekbanaaDoorELent
import Derived.Test.YtmdkgajjekbanaaDoorELens
import Derived.Test.YtmdkgajjekbanaaDoorEAbsW
import Derived.Test.YtmdkgajjekbanaaDoorERef02
import Derived.Test.YtmdkgajjekbanaaDoorEWalk
import Derived.Test.YtmdkgajjekbanaaDoorEOpenX
set_option linter.unusedSimpArgs false
set_option linter.unusedVariables false
namespace Go.Proofs.YtmdkgajjekbanaaDoor

structure NewLaw (x : Ex) (s : NSt) : Prop where
 labs : s.labs = labE x
 ok : NOk s
 fst : ∀ q, (s.fs.getD 0 0#32).getLsbD q = true ↔ Fst x 0 q
 fol : ∀ p q, p ≠ 0 → ((s.fs.getD p 0#32).getLsbD q = true ↔ Fol x 0 p q)
 lst : ∀ q, s.la.getLsbD q = true ↔ Lst x 0 q
 em : s.em = exEmpty x
theorem newM_law {x : Ex} (hr : exRight x = true) : NewLaw x (newM x) := by
 have hn := lab_le hr
 have B := bld_law x (st0 x) (by simp [st0]) (by simp [st0]; exact hn)
 have hz : ∀ p, (st0 x).fs.getD p 0#32 = 0#32 := fun p => by
  simp only [st0, List.getD_eq_getElem?_getD, List.getElem?_replicate]; split <;> rfl
 have hb : (st0 x).labs.length = 0 := rfl
 have hl : (newM x).labs = labE x := B.labs
 have hlen : (newM x).fs.length = 25 := by simp only [newM, List.length_set]; exact B.len
 have h0 : ∀ q, ((newM x).fs.getD 0 0#32).getLsbD q = true ↔ Fst x 0 q := fun q => by
  simp only [newM]
  rw [getD_set' (by rw [B.len]; decide), if_pos rfl, B.fst, hb]
 have hp : ∀ p q, p ≠ 0 → (((newM x).fs.getD p 0#32).getLsbD q = true ↔ Fol x 0 p q) := fun p q hp => by
  simp only [newM]
  rw [getD_set' (by rw [B.len]; decide), if_neg hp, B.fol, hb, hz]; simp
 have hla : ∀ q, (newM x).la.getLsbD q = true ↔ Lst x 0 q := fun q => by
  have := B.lst q; rw [hb] at this; exact this
 refine ⟨hl, ⟨hlen, by rw [hl]; exact hn, fun p q h => ?_, fun q h => ?_⟩, h0, hp, hla, ?_⟩
 ·rw [hl]
  by_cases e : p = 0
  ·subst e; have := Fst_range x ((h0 q).1 h); omega
  ·have := (Fol_range x ((hp p q e).1 h)).2; omega
 ·rw [hl]; have := Lst_range x ((hla q).1 h); omega
 ·show (bld x (st0 x)).1.em = _
  rw [B.em]; simp [st0, emptyB, hr]
theorem run_get {s : NSt} (ok : NOk s) {q : Nat} : ∀ (w : List ByteArray) (m : BitVec 32), (w.foldl (stepM s) m).getLsbD q = true ↔ ∃ p, m.getLsbD p = true ∧ Chain (fun p q => (s.fs.getD p 0#32).getLsbD q = true) (fun p => labAt s p) p w q
 | [], m => by simp [Chain]
 | a :: w, m => by
  rw [List.foldl_cons, run_get ok w]
  constructor
  ·rintro ⟨r, h1, h2⟩
   obtain ⟨p, k1, k2, k3⟩ := (stepM_get ok).1 h1
   exact ⟨p, k1, r, k2, toList_inj.1 (by simpa using k3), h2⟩
  ·rintro ⟨p, k1, r, k2, rfl, h2⟩
   exact ⟨r, (stepM_get ok).2 ⟨p, k1, k2, rfl⟩, h2⟩
theorem takes_law {x : Ex} (hr : exRight x = true) (w : List ByteArray) : takesM (newM x) w = exTakes x w := by
 have N := newM_law hr
 have F := (right_fit hr).1
 by_cases h0 : w.length = 0
 ·obtain rfl := List.eq_nil_of_length_eq_zero h0
  rw [takesM, if_pos h0, N.em, Bool.eq_iff_iff, exEmpty_iff F, exTakes_iff]; simp [hr]
 ·rw [takesM, if_neg h0, Bool.eq_iff_iff, exTakes_iff]
  simp only [hr, true_and]
  have hw : w ≠ [] := fun e => h0 (by rw [e]; rfl)
  have hg : LabAt (labE x) 0 (fun p => labAt (newM x) p) := fun i a hi => by
   have hlt := (List.getElem?_eq_some_iff.1 hi).1
   show labAt (newM x) ((0 + 1 + i : Nat) : Int) = a
   rw [labAt, if_pos (by rw [N.labs]; omega), N.labs, List.getD_eq_getElem?_getD, show (((0 + 1 + i : Nat) : Int) - 1).toNat = i by omega, hi]; rfl
  rw [glu F hg hw]
  have h1 : (runM (newM x) w &&& (newM x).la != 0#32) = true ↔ ∃ q, (runM (newM x) w).getLsbD q = true ∧ (newM x).la.getLsbD q = true := by
   rw [bne_iff_ne]
   constructor
   ·intro h
    by_cases hb : bitsM (runM (newM x) w &&& (newM x).la) = []
    ·exact absurd (bitsM_nil hb) h
    ·obtain ⟨q, hq⟩ := List.exists_mem_of_ne_nil _ hb
     have := bitsM_mem.1 hq
     rw [BitVec.getLsbD_and, Bool.and_eq_true] at this
     exact ⟨q, this⟩
   ·rintro ⟨q, h1, h2⟩ e
    have : (runM (newM x) w &&& (newM x).la).getLsbD q = true := by rw [BitVec.getLsbD_and, h1, h2]; rfl
    rw [e] at this; simp at this
  rw [h1]
  cases w with
  | nil => exact absurd rfl hw
  | cons a v =>
   simp only [PathOf]
   have hst : ∀ p, (ofM 0).getLsbD p = true ↔ p = 0 := fun p => by rw [ofM_get, decide_eq_true_eq]; omega
   have hc : ∀ (v : List ByteArray) p q, p ≠ 0 → (Chain (fun p q => ((newM x).fs.getD p 0#32).getLsbD q = true) (fun p => labAt (newM x) p) p v q ↔ Chain (Fol x 0) (fun p => labAt (newM x) p) p v q) := fun v => by
    induction v with
    | nil => intro p q _; exact Iff.rfl
    | cons b v ih =>
     intro p q hp
     simp only [Chain]
     constructor
     ·rintro ⟨r, k1, k2, k3⟩
      have k4 := (N.fol p r hp).1 k1
      have := (Fol_range x k4).2
      exact ⟨r, k4, k2, (ih r q (by omega)).1 k3⟩
     ·rintro ⟨r, k1, k2, k3⟩
      have := (Fol_range x k1).2
      exact ⟨r, (N.fol p r hp).2 k1, k2, (ih r q (by omega)).2 k3⟩
   constructor
   ·rintro ⟨q, h2, h3⟩
    obtain ⟨p, k1, r, k2, k3, k4⟩ := (run_get N.ok _ _).1 h2
    obtain rfl := (hst p).1 k1
    have k5 := (N.fst r).1 k2
    have := Fst_range x k5
    exact ⟨r, q, k5, k3, (hc v r q (by omega)).1 k4, (N.lst q).1 h3⟩
   ·rintro ⟨r, q, k1, k2, k3, k4⟩
    have := Fst_range x k1
    exact ⟨q, (run_get N.ok _ _).2 ⟨0, (hst 0).2 rfl, r, (N.fst r).2 k1, k2, (hc v r q (by omega)).2 k3⟩, (N.lst q).2 k4⟩
end Go.Proofs.YtmdkgajjekbanaaDoor

namespace Go.Proofs.YtmdkgajjekbanaaDoor
open Go.RowKit

end Go.Proofs.YtmdkgajjekbanaaDoor

namespace Go.Proofs.YtmdkgajjekbanaaDoor
open Go.RowKit

def e0 : ByteArray := ⟨#[]⟩

def askA (nm : ByteArray) (l r o : Opd) : List AV := [.slc 8 [[.v (.string ⟨#[97]⟩), .v (.string ⟨#[98]⟩), .v (.bool false), .v (.string ⟨#[120]⟩), .v (.string nm), .v (.int .i64 0), .v (.string e0), .v (.slice none 0 0)]] 1, .slc 13 [encC ⟨3, l, r⟩] 1, .slc 6 [encO o] 1, .v (.int .i64 5), .v (.int .i64 1)]

theorem okS {s : ByteArray} (h : decide (s.size ≤ 100) = true) : okT s := by unfold okT; have := of_decide_eq_true h; omega

end Go.Proofs.YtmdkgajjekbanaaDoor

namespace Go.Proofs.YtmdkgajjekbanaaDoor
open Go.RowKit

section
variable {P : Program}
end
end Go.Proofs.YtmdkgajjekbanaaDoor

namespace Go.Proofs.YtmdkgajjekbanaaDoor
open Go.RowKit

def sA : ByteArray := ⟨#[97]⟩
def sB : ByteArray := ⟨#[98]⟩
def exE : Ex := .mk 4 e0 [.mk 2 e0 [.mk 1 sA [], .mk 1 sB []]]
def exEA : List AV := [.v (.int .i64 4), .v (.string e0), .slc 3 [[.v (.int .i64 2), .v (.string e0), .slc 3 [[.v (.int .i64 1), .v (.string sA), .v (.slice none 0 0)], [.v (.int .i64 1), .v (.string sB), .v (.slice none 0 0)]] 2]] 1]
theorem labA_le (s : ByteArray) : LeL [.v (.int .i64 1), .v (.string s), .v (.slice none 0 0)] (encE (.mk 1 s [])) := by
 simp only [encE_eq, Ex.kind, Ex.label, Ex.kids, List.map_nil, List.length_nil]
 exact .cons (.refl _) (.cons (.refl _) (.cons (.nil 3) .nil))
theorem exE_le : LeL exEA (encE exE) := by
 have h1 : LeL [.v (.int .i64 2), .v (.string e0), .slc 3 [[.v (.int .i64 1), .v (.string sA), .v (.slice none 0 0)], [.v (.int .i64 1), .v (.string sB), .v (.slice none 0 0)]] 2] (encE (.mk 2 e0 [.mk 1 sA [], .mk 1 sB []])) := by
  have := Le.rows (z := 3) (f := fun s => [.v (.int .i64 1), .v (.string s), .v (.slice none 0 0)]) (g := fun s => encE (.mk 1 s [])) (xs := [sA, sB]) (more := []) (fun x _ => labA_le x)
  simp only [encE_eq, Ex.kind, Ex.label, Ex.kids, List.map_nil, List.length_nil, List.map_cons, List.length_cons, List.append_nil, Nat.zero_add, Nat.reduceAdd] at this ⊢
  exact .cons (.refl _) (.cons (.refl _) (.cons this .nil))
 have := Le.rows (z := 3) (f := fun _ : Unit => [.v (.int .i64 2), .v (.string e0), .slc 3 [[.v (.int .i64 1), .v (.string sA), .v (.slice none 0 0)], [.v (.int .i64 1), .v (.string sB), .v (.slice none 0 0)]] 2]) (g := fun _ => encE (.mk 2 e0 [.mk 1 sA [], .mk 1 sB []])) (xs := [()]) (more := []) (fun x _ => h1)
 rw [exE, encE_eq]
 simp only [Ex.kind, Ex.label, Ex.kids, List.map_nil, List.length_nil, List.map_cons, List.length_cons, List.append_nil, Nat.zero_add, Nat.reduceAdd] at this ⊢
 exact .cons (.refl _) (.cons (.refl _) (.cons this .nil))
theorem exE_ok : exE.ok := by
 have h0 : okT e0 := okS (by rfl)
 have hA : okT sA := okS (by rfl)
 have hB : okT sB := okS (by rfl)
 simp only [exE, Ex.ok, exsOk]
 exact ⟨h0, ⟨h0, ⟨hA, trivial⟩, ⟨hB, trivial⟩, trivial⟩, trivial⟩

end Go.Proofs.YtmdkgajjekbanaaDoor

namespace Go.Proofs.YtmdkgajjekbanaaDoor
open Go.RowKit

theorem exE_st : (newM exE).labs.length = 2 ∧ (newM exE).fs.length = 25 ∧ bitsM ((newM exE).fs.getD 0 0#32) = [1] ∧ bitsM (newM exE).la = [2] ∧ folAt (newM exE) 1 = [2] ∧ folAt (newM exE) 2 = [1] ∧ (newM exE).em = true := by
 refine ⟨by kernel_rfl, by kernel_rfl, by kernel_rfl, by kernel_rfl, by kernel_rfl, by kernel_rfl, by kernel_rfl⟩
set_option maxRecDepth 100000 in
set_option maxHeartbeats 4000000 in
theorem awake08_c : Call1 Tryd.prog 9 [] (.v (.bool true)) := by
 obtain ⟨h1, h2, h3, h4, h5, h6, h7⟩ := exE_st
 have L1 := llabel08_c sA
 have L2 := llabel08_c sB
 have O1 := lof08_c 2 [[.v (.int .i64 1), .v (.string sA), .v (.slice none 0 0)], [.v (.int .i64 1), .v (.string sB), .v (.slice none 0 0)]] 2 rfl
 have O2 := lof08_c 4 [[.v (.int .i64 2), .v (.string e0), .slc 3 [[.v (.int .i64 1), .v (.string sA), .v (.slice none 0 0)], [.v (.int .i64 1), .v (.string sB), .v (.slice none 0 0)]] 2]] 1 rfl
 have N := (new_c exE exE_ok).le (args' := [.agg exEA]) rfl (.cons exE_le.agg .nil)
 rw [show exRight exE = true by kernel_rfl, if_pos rfl] at N
 have C1 := nLen_c (newM exE)
 have C2 := nFirst_c (newM exE) h2
 have C3 := nLast_c (newM exE) h2
 have C4 := nFollow_c (newM exE) 1 h2 (by omega)
 have C5 := nFollow_c (newM exE) 2 h2 (by omega)
 have C6 := nEmpty_c (newM exE) h2
 rw [h1, show ((2 : Nat) : Int) = 2 from rfl] at C1
 rw [h3] at C2
 rw [h4] at C3
 rw [h5] at C4
 rw [h6] at C5
 rw [h7] at C6
 have S1 := sameInts_c [1] [1] (by decide)
 have S2 := sameInts_c [2] [2] (by decide)
 simp only [exEA, e0, sA, sB] at L1 L2 O1 O2 N
 generalize nfaV (newM exE) = V at *
 (refine Call1.enter Tryd.func9 rfl (by kernel_rfl) (by kernel_rfl) rfl (by first | rfl | (simp only [go_sem, Bool.and_self, Bool.and_true, Bool.true_and])) (by first | rfl | (simp only [go_sem, Bool.and_self, Bool.and_true, Bool.true_and])) ?_; simp only [Tryd.ntmps9, Tryd.results9, List.length_cons, List.length_nil, Nat.reduceAdd, Nat.reduceSub, List.replicate_succ, List.replicate_zero, List.cons_append, List.nil_append])
 repeat (first | (with_reducible first | refine Stp.up ?_ | refine fun (K : AK) hK => ?_ | (refine hK _ ?_; clear hK K)) | simp only [go_sem] | clear hK K)
 refine ACallV.one L1 ?_
 repeat (first | (with_reducible first | refine Stp.up ?_ | refine fun (K : AK) hK => ?_ | (refine hK _ ?_; clear hK K)) | simp only [go_sem] | clear hK K)
 refine ACallV.one L2 ?_
 repeat (first | (with_reducible first | refine Stp.up ?_ | refine fun (K : AK) hK => ?_ | (refine hK _ ?_; clear hK K)) | simp only [go_sem] | clear hK K)
 refine ACallV.give O1 rfl (by simp only [go_sem, Nat.reduceLT, Nat.reduceLeDiff, Nat.reduceEqDiff, Nat.lt_add_one, Nat.zero_lt_one, and_self]) ?_
 repeat (first | (with_reducible first | refine Stp.up ?_ | refine fun (K : AK) hK => ?_ | (refine hK _ ?_; clear hK K)) | simp only [go_sem] | clear hK K)
 refine ACallV.give O2 rfl (by simp only [go_sem, Nat.reduceLT, Nat.reduceLeDiff, Nat.reduceEqDiff, Nat.lt_add_one, Nat.zero_lt_one, and_self]) ?_
 repeat (first | (with_reducible first | refine Stp.up ?_ | refine fun (K : AK) hK => ?_ | (refine hK _ ?_; clear hK K)) | simp only [go_sem] | clear hK K)
 refine ACallV.one N ?_
 repeat (first | (with_reducible first | refine Stp.up ?_ | refine fun (K : AK) hK => ?_ | (refine hK _ ?_; clear hK K)) | simp only [go_sem] | clear hK K)
 simp only [intsA, encI, encN, List.map_cons, List.map_nil, List.length_cons, List.length_nil, Nat.reduceAdd, decide_true] at C2 C3 C4 C5 S1 S2
 refine ACallV.one C1 ?_
 repeat (first | (with_reducible first | refine Stp.up ?_ | refine fun (K : AK) hK => ?_ | (refine hK _ ?_; clear hK K)) | simp only [go_sem, Go.undef] | clear hK K)
 refine ACallV.one C2 ?_
 repeat (first | (with_reducible first | refine Stp.up ?_ | refine fun (K : AK) hK => ?_ | (refine hK _ ?_; clear hK K)) | simp only [go_sem, Go.undef] | clear hK K)
 refine ACallV.give S1 rfl (by simp only [go_sem, Nat.reduceLT, Nat.reduceLeDiff, Nat.reduceEqDiff, Nat.lt_add_one, Nat.zero_lt_one, and_self]) ?_
 repeat (first | (with_reducible first | refine Stp.up ?_ | refine fun (K : AK) hK => ?_ | (refine hK _ ?_; clear hK K)) | simp only [go_sem, Go.undef] | clear hK K)
 refine ACallV.one C3 ?_
 repeat (first | (with_reducible first | refine Stp.up ?_ | refine fun (K : AK) hK => ?_ | (refine hK _ ?_; clear hK K)) | simp only [go_sem, Go.undef] | clear hK K)
 refine ACallV.give S2 rfl (by simp only [go_sem, Nat.reduceLT, Nat.reduceLeDiff, Nat.reduceEqDiff, Nat.lt_add_one, Nat.zero_lt_one, and_self]) ?_
 repeat (first | (with_reducible first | refine Stp.up ?_ | refine fun (K : AK) hK => ?_ | (refine hK _ ?_; clear hK K)) | simp only [go_sem, Go.undef] | clear hK K)
 refine ACallV.one C4 ?_
 repeat (first | (with_reducible first | refine Stp.up ?_ | refine fun (K : AK) hK => ?_ | (refine hK _ ?_; clear hK K)) | simp only [go_sem, Go.undef] | clear hK K)
 refine ACallV.give S2 rfl (by simp only [go_sem, Nat.reduceLT, Nat.reduceLeDiff, Nat.reduceEqDiff, Nat.lt_add_one, Nat.zero_lt_one, and_self]) ?_
 repeat (first | (with_reducible first | refine Stp.up ?_ | refine fun (K : AK) hK => ?_ | (refine hK _ ?_; clear hK K)) | simp only [go_sem, Go.undef] | clear hK K)
 refine ACallV.one C5 ?_
 repeat (first | (with_reducible first | refine Stp.up ?_ | refine fun (K : AK) hK => ?_ | (refine hK _ ?_; clear hK K)) | simp only [go_sem, Go.undef] | clear hK K)
 refine ACallV.give S1 rfl (by simp only [go_sem, Nat.reduceLT, Nat.reduceLeDiff, Nat.reduceEqDiff, Nat.lt_add_one, Nat.zero_lt_one, and_self]) ?_
 repeat (first | (with_reducible first | refine Stp.up ?_ | refine fun (K : AK) hK => ?_ | (refine hK _ ?_; clear hK K)) | simp only [go_sem, Go.undef] | clear hK K)
 refine ACallV.one C6 ?_
 repeat (first | (with_reducible first | refine Stp.up ?_ | refine fun (K : AK) hK => ?_ | (refine hK _ ?_; clear hK K)) | simp only [go_sem, Go.undef] | clear hK K)
end Go.Proofs.YtmdkgajjekbanaaDoor

namespace Go.Proofs.YtmdkgajjekbanaaDoor

def intsN (l : List Nat) : List Int := l.map (fun (p : Nat) => (p : Int))
theorem encN_ints (l : List Nat) : encN l = (intsN l).map encI := by rw [encN, intsN, List.map_map]; rfl
theorem intsN_len (l : List Nat) : (intsN l).length = l.length := by rw [intsN, List.length_map]
def anyB (a b : List Nat) : Bool := a.any (fun p => b.any (fun q => (q : Int) == (p : Int)))
end Go.Proofs.YtmdkgajjekbanaaDoor

namespace Go.Proofs.YtmdkgajjekbanaaDoor
open Go.RowKit

section
variable {o : List (Option AObj)}
theorem AFzN.vecs {id len : Nat} {ob : AObj} (ho : o[id]? = some (some ob)) (hv : ob.isV = true) (hl : ob.rows.length = len) {rows' : List (List AV)} (hlen : rows'.length = ob.rows.length)
  (hr : ∀ (i : Nat) row row', ob.rows[i]? = some row → rows'[i]? = some row' → row'.length = row.length ∧ ∀ (j : Nat) c c', row[j]? = some c → row'[j]? = some c' → AFzN o c c') : AFzN o (.vec id len) (.slc ob.z rows' len) := fun D nu w x hro hra => by
 have hx : x = nu id len := by
  cases hra with
  | vec => rfl
 subst hx
 subst hl
 have get : ∀ (i : Nat) row', rows'[i]? = some row' → ∃ row, ob.rows[i]? = some row ∧ row'.length = row.length ∧ ∀ (j : Nat) c', row'[j]? = some c' → ∃ c, row[j]? = some c ∧ AFzN o c c' := fun i row' h => by
  have hi : i < ob.rows.length := by rw [← hlen]; exact (List.getElem?_eq_some_iff.1 h).1
  obtain ⟨h1, h2⟩ := hr i _ row' (List.getElem?_eq_getElem hi) h
  refine ⟨_, List.getElem?_eq_getElem hi, h1, fun j c' hc => ?_⟩
  have hj : j < ob.rows[i].length := by rw [← h1]; exact (List.getElem?_eq_some_iff.1 hc).1
  exact ⟨_, List.getElem?_eq_getElem hj, h2 j _ c' (List.getElem?_eq_getElem hj) hc⟩
 rcases hro.obj id ob ho with ⟨e1, e2, e3⟩ | ⟨g, cur, hb⟩ | ⟨g, es, cl, hmp⟩
 rotate_left 2
 ·rw [hmp.isV] at hv; cases hv
 ·rw [e2] at hlen ⊢
  obtain rfl := List.eq_nil_of_length_eq_zero hlen
  simp only [List.length_nil]; rw [e3]; exact .slcNil _
 ·obtain ⟨cap, q1, q2, q3, q4⟩ := hb.vec hv
  have hown : owned nu o g := ⟨id, ob, ho, hb.blkEq⟩
  rw [q1]
  have hget : ∀ (i j : Nat) row c, ob.rows[i]? = some row → row[j]? = some c → cur[i * ob.z + j]? = some (cur.getD (i * ob.z + j) Go.undef) := fun i j row c k1 k2 => by
   have := hb.curLt k1 (List.getElem?_eq_some_iff.1 k2).1
   simp [Array.getD, this]
  refine .slc _ _ _ g 0 cap (fun i j => cur.getD (i * ob.z + j) Go.undef) (by omega) (by omega) q3 (fun _ => ⟨(Array.getElem?_eq_some_iff.1 hb.blk).1, owned_nil _ _, hown⟩) (fun i row' k1 => ?_) (fun i j row' c' k1 k2 => ?_) (fun i j row' c' k1 k2 => ?_) (fun i j row' c' k1 k2 => ?_)
  ·obtain ⟨row, r1, r2, _⟩ := get i row' k1
   rw [r2]; exact hb.row i row r1
  all_goals
   obtain ⟨row, r1, r2, r3⟩ := get i row' k1
   obtain ⟨c, r4, r5⟩ := r3 j c' k2
  ·rw [← hget i j row c r1 r4]
   have := hb.blk
   simp [World.cell?, this]
  ·exact r5 D nu w _ hro (hb.cell i j row c _ r1 r4 (hget i j row c r1 r4))
  ·exact hb.one i j row c _ r1 r4 (hget i j row c r1 r4)
end

def rwB (N : Nat) (g : Nat → Bool) : List (List AV) := (List.range N).map (fun j => [.v (.bool (g j))])
def mxB (N : Nat) (f : Nat → Nat → Bool) : List (List AV) := (List.range N).map (fun i => [.slc 1 (rwB N (f i)) N])
def rid (k i : Nat) : Nat := k + 1 + 2 * i
def outRows (k N m : Nat) : List (List AV) := (List.range m).map (fun i => [.vec (rid k i) N])
def rowO (N : Nat) (g : Nat → Bool) : Option AObj := some ⟨4, 1, true, rwB N g⟩
def inObs (N : Nat) (f : Nat → Nat → Bool) (m : Nat) : List (Option AObj) := (List.range m).flatMap (fun i => [rowO N (f i), none])
def mObs (k N m : Nat) (f : Nat → Nat → Bool) : List (Option AObj) := some ⟨42, 1, true, outRows k N m⟩ :: inObs N f m
theorem rwB_len (N : Nat) (g : Nat → Bool) : (rwB N g).length = N := by simp [rwB]
theorem mxB_len (N : Nat) (f : Nat → Nat → Bool) : (mxB N f).length = N := by simp [mxB]
theorem outRows_len (k N m : Nat) : (outRows k N m).length = m := by simp [outRows]
theorem inObs_len (N : Nat) (f : Nat → Nat → Bool) (m : Nat) : (inObs N f m).length = 2 * m := by
 induction m with
 | zero => rfl
 | succ m ih => rw [inObs, List.range_succ, List.flatMap_append, List.length_append, ← inObs, ih]; simp; omega
theorem inObs_succ (N : Nat) (f : Nat → Nat → Bool) (m : Nat) : inObs N f (m + 1) = inObs N f m ++ [rowO N (f m), none] := by
 rw [inObs, List.range_succ, List.flatMap_append, ← inObs]; simp
theorem outRows_succ (k N m : Nat) : outRows k N (m + 1) = outRows k N m ++ [[.vec (rid k m) N]] := by rw [outRows, List.range_succ, List.map_append]; rfl
theorem rwB_at {N j : Nat} {g : Nat → Bool} (h : j < N) : (rwB N g).getD j [] = [.v (.bool (g j))] := by
 rw [List.getD_eq_getElem?_getD, rwB, List.getElem?_map, List.getElem?_range h]; rfl
theorem mxB_at {N i : Nat} {f : Nat → Nat → Bool} (h : i < N) : (mxB N f).getD i [] = [.slc 1 (rwB N (f i)) N] := by
 rw [List.getD_eq_getElem?_getD, mxB, List.getElem?_map, List.getElem?_range h]; rfl
theorem outRows_at {k N m i : Nat} (h : i < m) : (outRows k N m).getD i [] = [.vec (rid k i) N] := by
 rw [List.getD_eq_getElem?_getD, outRows, List.getElem?_map, List.getElem?_range h]; rfl
theorem rwB_eq {N : Nat} {g h : Nat → Bool} (e : ∀ j, j < N → g j = h j) : rwB N g = rwB N h := by
 refine List.map_congr_left fun j hj => ?_
 rw [e j (List.mem_range.1 hj)]
theorem mxB_eq {N : Nat} {g h : Nat → Nat → Bool} (e : ∀ i j, i < N → j < N → g i j = h i j) : mxB N g = mxB N h := by
 refine List.map_congr_left fun i hi => ?_
 rw [rwB_eq (fun j hj => e i j (List.mem_range.1 hi) hj)]
theorem inObs_eq {N m : Nat} {g h : Nat → Nat → Bool} (e : ∀ i j, i < m → j < N → g i j = h i j) : inObs N g m = inObs N h m := by
 rw [inObs, inObs, List.flatMap_def, List.flatMap_def]
 congr 1
 refine List.map_congr_left fun i hi => ?_
 rw [rowO, rowO, rwB_eq (fun j hj => e i j (List.mem_range.1 hi) hj)]
theorem rwB_false (N : Nat) : List.replicate N [AV.v (.bool false)] = rwB N (fun _ => false) := by
 refine List.ext_getElem (by simp [rwB]) fun i h1 h2 => by simp [rwB]
theorem inObs_get {N : Nat} {f : Nat → Nat → Bool} : ∀ {m i : Nat}, i < m → (inObs N f m)[2 * i]? = some (rowO N (f i))
 | 0, _, h => by omega
 | m + 1, i, h => by
  rw [inObs_succ]
  by_cases hi : i < m
  ·rw [List.getElem?_append_left (by rw [inObs_len]; omega)]; exact inObs_get hi
  ·obtain rfl : i = m := by omega
   rw [List.getElem?_append_right (by rw [inObs_len]; omega), inObs_len, Nat.sub_self]; rfl
theorem mObs_get {k N m i : Nat} {f : Nat → Nat → Bool} {x : Option AObj} (h : i < m) : (x :: inObs N f m)[rid 0 i]? = some (rowO N (f i)) := by
 rw [show rid 0 i = 2 * i + 1 by unfold rid; omega, List.getElem?_cons_succ]; exact inObs_get h
def upd2 (f : Nat → Nat → Bool) (i j : Nat) (v : Bool) : Nat → Nat → Bool := fun p q => if p = i ∧ q = j then v else f p q
theorem rwB_set {N j : Nat} {g : Nat → Bool} {v : Bool} : (rwB N g).set j [.v (.bool v)] = rwB N (fun q => if q = j then v else g q) := by
 refine List.ext_getElem (by simp [rwB]) fun q h1 h2 => ?_
 rw [List.getElem_set]
 simp only [rwB, List.getElem_map, List.getElem_range]
 split
 ·rename_i e; subst e; rw [if_pos rfl]
 ·rename_i e; rw [if_neg (fun e' => e e'.symm)]
theorem inObs_set {N : Nat} {f : Nat → Nat → Bool} {j : Nat} {v : Bool} : ∀ {m i : Nat}, i < m → (inObs N f m).set (2 * i) (some ⟨4, 1, true, (rwB N (f i)).set j [.v (.bool v)]⟩) = inObs N (upd2 f i j v) m
 | 0, _, h => by omega
 | m + 1, i, h => by
  rw [inObs_succ, inObs_succ]
  by_cases hi : i < m
  ·have e : rowO N (upd2 f i j v m) = rowO N (f m) := by
    rw [rowO, rowO, rwB_eq (fun q _ => by rw [upd2, if_neg (by omega)])]
   rw [List.set_append_left _ _ (by rw [inObs_len]; omega), inObs_set hi, e]
  ·obtain rfl : i = m := by omega
   rw [List.set_append_right _ _ (by rw [inObs_len]; omega), inObs_len, Nat.sub_self, List.set_cons_zero]
   rw [inObs_eq (g := upd2 f i j v) (h := f) (fun p q hp _ => by rw [upd2, if_neg (by omega)])]
   congr 2
   rw [rowO, rwB_set]
   congr 2
   refine rwB_eq fun q _ => ?_
   rw [upd2]
   by_cases hq : q = j
   ·rw [if_pos hq, if_pos ⟨rfl, hq⟩]
   ·rw [if_neg hq, if_neg (fun e => hq e.2)]
theorem mObs_set {N m i j : Nat} {f : Nat → Nat → Bool} {v : Bool} {x : Option AObj} (h : i < m) : (x :: inObs N f m).set (rid 0 i) (some ⟨4, 1, true, (rwB N (f i)).set j [.v (.bool v)]⟩) = x :: inObs N (upd2 f i j v) m := by
 rw [show rid 0 i = 2 * i + 1 by unfold rid; omega, List.set_cons_succ, inObs_set h]
theorem wf_rwB (n N : Nat) (g : Nat → Bool) : wfR n (rwB N g) = true := wfR_map _ (fun _ => rfl) _
theorem wf_mxB (n N : Nat) (f : Nat → Nat → Bool) : wfR n (mxB N f) = true := wfR_map _ (fun i => by simp only [wfL, AV.wf, wf_rwB, Bool.and_self]) _
attribute [go_sem] wf_rwB wf_mxB rwB_len mxB_len outRows_len
theorem wfR_snoc (n : Nat) : ∀ (a : List (List AV)) (b : List AV), wfR n (a ++ [b]) = (wfR n a && wfL n b)
 | [], b => by simp [wfR]
 | x :: a, b => by simp only [List.cons_append, wfR, wfR_snoc n a b, Bool.and_assoc]
theorem wf_outRows {n k N : Nat} : ∀ {m : Nat}, k + 2 * m ≤ n → wfR n (outRows k N m) = true
 | 0, _ => rfl
 | m + 1, h => by
  rw [outRows_succ, wfR_snoc, wf_outRows (by omega)]
  have hr : rid k m < n := by unfold rid; omega
  simp [wfR, wfL, AV.wf, hr]
theorem mObs_frz (N : Nat) (f : Nat → Nat → Bool) : AFzN (mObs 0 N N f) (.vec 0 N) (.slc 1 (mxB N f) N) := by
 refine AFzN.vecs (ob := ⟨42, 1, true, outRows 0 N N⟩) rfl rfl (outRows_len _ _ _) (by rw [mxB_len]; exact (outRows_len _ _ _).symm) fun i row row' h1 h2 => ?_
 have hi : i < N := by have := (List.getElem?_eq_some_iff.1 h1).1; rw [outRows_len] at this; exact this
 have e1 : (outRows 0 N N)[i]? = some [.vec (rid 0 i) N] := by rw [outRows, List.getElem?_map, List.getElem?_range hi]; rfl
 have e2 : (mxB N f)[i]? = some [.slc 1 (rwB N (f i)) N] := by rw [mxB, List.getElem?_map, List.getElem?_range hi]; rfl
 cases (Option.some.inj (e1.symm.trans h1))
 cases (Option.some.inj (e2.symm.trans h2))
 refine ⟨rfl, fun j c c' k1 k2 => ?_⟩
 match j, k1, k2 with
 | 0, k1, k2 =>
  cases k1; cases k2
  exact AFzN.vec (ob := ⟨4, 1, true, rwB N (f i)⟩) (mObs_get (k := 0) hi) rfl (rwB_len _ _) (plain_map _ (fun s c hc => by rw [List.mem_singleton] at hc; exact ⟨_, hc⟩) _)
 | j + 1, k1, k2 => simp at k1
end Go.Proofs.YtmdkgajjekbanaaDoor
