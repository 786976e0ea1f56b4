/- kinescopelaw08: size, of, label, has, labels. -/
import Derived.Test.YtmdkgajjekbanaaDoorTInts
import Derived.Test.YtmdkgajjekbanaaDoorProg
import Derived.Test.YtmdkgajjekbanaaDoorTBase2
import Derived.Test.YtmdkgajjekbanaaDoorTLent
import Derived.Test.YtmdkgajjekbanaaDoorTLens
import Derived.Test.YtmdkgajjekbanaaDoorTAbsW
set_option linter.unusedSimpArgs false
set_option linter.unusedVariables false
namespace Go.Proofs.YtmdkgajjekbanaaDoor
open Go.RowKit

set_option maxRecDepth 100000 in
set_option maxHeartbeats 4000000 in
theorem lsize08_c (x : Ex) : ∀ d : Nat, d ≤ 61 → Call1 Tryd.prog 8 [.agg (encE x), .v (.int .i64 d)] (.v (.int .i64 (sX x d : Nat))) := by
  induction x using Ex.ind with
  | h k s l ih =>
    intro d hd61
    simp only [encE_eq, sX, Ex.kind, Ex.label, Ex.kids]
    by_cases hdd : 60 < d
    · rw [if_pos hdd]
      have hd0 : decide (60 < (d : Int)) = true := decide_eq_true (by omega)
      (refine Call1.enter Tryd.func8 rfl (by kernel_rfl) (by kernel_rfl) rfl (by first | rfl | (simp only [go_sem, Bool.and_self, Bool.and_true, Bool.true_and])) (by first | rfl | (simp only [go_sem, Bool.and_self, Bool.and_true, Bool.true_and])) ?_; simp only [Tryd.ntmps8, Tryd.results8, List.length_cons, List.length_nil, Nat.reduceAdd, Nat.reduceSub, List.replicate_succ, List.replicate_zero, List.cons_append, List.nil_append])
      repeat (first | (with_reducible first | refine Stp.up ?_ | refine fun (K : AS → Prop) hK => ?_ | refine wE ?_ | refine wD ?_ | refine wK ?_ | refine wF ?_ | refine adrawG_k (by decide) ?_ | refine adrawG_e (by decide) ?_ | (refine hK _ ?_; clear hK; clear K)) | simp only [go_sem, hd0] | (with_reducible refine And.intro (by omega) ?_) | (clear hK; clear K))
      rfl
    · rw [if_neg hdd]
      have hd0 : decide (60 < (d : Int)) = false := decide_eq_false (by omega)
      have eD := wrap_succ (k := d) (by omega)
      (refine Call1.enter Tryd.func8 rfl (by kernel_rfl) (by kernel_rfl) rfl (by first | rfl | (simp only [go_sem, Bool.and_self, Bool.and_true, Bool.true_and])) (by first | rfl | (simp only [go_sem, Bool.and_self, Bool.and_true, Bool.true_and])) ?_; simp only [Tryd.ntmps8, Tryd.results8, List.length_cons, List.length_nil, Nat.reduceAdd, Nat.reduceSub, List.replicate_succ, List.replicate_zero, List.cons_append, List.nil_append])
      repeat (first | (with_reducible first | refine Stp.up ?_ | refine fun (K : AS → Prop) hK => ?_ | refine wE ?_ | refine wD ?_ | refine wK ?_ | refine wF ?_ | refine adrawG_k (by decide) ?_ | refine adrawG_e (by decide) ?_ | (refine hK _ ?_; clear hK; clear K)) | simp only [go_sem, hd0] | (with_reducible refine And.intro (by omega) ?_) | (clear hK; clear K))
      refine awp_loopK (ι := Nat) 9 (fun i => [(5, .v (.int .i64 (sL (l.take i) (d + 1) 1 : Nat))), (6, .v (.int .i64 i))]) (fun i => l.length - i) (fun i => i ≤ l.length ∧ i + 1 ≤ sL (l.take i) (d + 1) 1) 0 ⟨Nat.zero_le _, Nat.le_refl _⟩ ?_ ?_
      · (refine wk_mk ?_ ?_ ?_ <;> simp only [frm, List.foldl_cons, List.foldl_nil, List.replicate_succ, List.replicate_zero, WkT, WkO, AV.v.injEq, Value.int.injEq, Value.bool.injEq, Value.string.injEq, AV.vec.injEq, AV.ptr.injEq, true_or, or_true, false_or, or_false, AObj.mk.injEq, forall_eq_apply_imp_iff, forall_eq, forall_eq', go_sem])
        exact ⟨rfl, rfl⟩
      rintro i ⟨hi, hin⟩ K hK
      have hr := sL_rng (l.take i) (d + 1) 1 (by omega)
      repeat (first | (with_reducible first | refine Stp.up ?_ | refine fun (K : AS → Prop) hK => ?_ | refine wE ?_ | refine wD ?_ | refine wK ?_ | refine wF ?_ | refine adrawG_k (by decide) ?_ | refine adrawG_e (by decide) ?_ | (refine hK _ ?_; clear hK; clear K)) | simp only [go_sem] | (with_reducible refine And.intro (by omega) ?_) | (clear hK; clear K))
      refine AIf.part (fun h => ?_) (fun h => ?_)
      · have hlt : i < l.length := by (try simp only [bne_iff_ne, ne_eq, bne_eq_false_iff_eq, beq_iff_eq, beq_eq_false_iff_ne, decide_eq_true_eq, decide_eq_false_iff_not, Bool.not_eq_true', Bool.not_eq_false', Bool.not_eq_eq_eq_not, Bool.not_true, Bool.not_false, Int.natCast_inj, Int.ofNat_lt, Int.ofNat_le] at h); omega
        by_cases hb2 : sL (l.take i) (d + 1) 1 ≤ 300
        · have eW := wrap_succ (k := i) (by omega)
          have eG := getD_map encE l i [] hlt
          have HX := ih l[i] (List.getElem_mem hlt) (d + 1) (by omega)
          have eT := sL_take l (d + 1) 1 i hlt hb2
          have hr2 := sX_rng l[i] (d + 1) (by omega)
          have hd : decide (((sL (l.take i) (d + 1) 1 : Nat) : Int) ≤ 300) = true := decide_eq_true (by omega)
          have eS : IntKind.i64.wrap (((sL (l.take i) (d + 1) 1 : Nat) : Int) + ((sX l[i] (d + 1) : Nat) : Int)) = ((sL (l.take (i + 1)) (d + 1) 1 : Nat) : Int) := by rw [wrap_id (by omega) (by omega), eT]; omega
          simp only [encE_eq] at HX eG
          repeat (first | (with_reducible first | refine Stp.up ?_ | refine fun (K : AS → Prop) hK => ?_ | refine wE ?_ | refine wD ?_ | refine wK ?_ | refine wF ?_ | refine adrawG_k (by decide) ?_ | refine adrawG_e (by decide) ?_ | (refine hK _ ?_; clear hK; clear K)) | simp only [go_sem, hd, h, eG, encE_eq, eD] | (with_reducible refine And.intro (by omega) ?_) | (clear hK; clear K))
          refine ACallV.one HX ?_
          repeat (first | (with_reducible first | refine Stp.up ?_ | refine fun (K : AS → Prop) hK => ?_ | refine wE ?_ | refine wD ?_ | refine wK ?_ | refine wF ?_ | refine adrawG_k (by decide) ?_ | refine adrawG_e (by decide) ?_ | (refine hK _ ?_; clear hK; clear K)) | simp only [go_sem, eS, eW] | (with_reducible refine And.intro (by omega) ?_) | (clear hK; clear K))
          exact LNext.mk (i + 1) ⟨by omega, by omega⟩ (by omega) (by (refine wk_mk ?_ ?_ ?_ <;> simp only [frm, List.foldl_cons, List.foldl_nil, List.replicate_succ, List.replicate_zero, WkT, WkO, AV.v.injEq, Value.int.injEq, Value.bool.injEq, Value.string.injEq, AV.vec.injEq, AV.ptr.injEq, true_or, or_true, false_or, or_false, AObj.mk.injEq, forall_eq_apply_imp_iff, forall_eq, forall_eq', go_sem]))
        · have eT := sL_stop l (d + 1) 1 i (by omega)
          have hd : decide (((sL (l.take i) (d + 1) 1 : Nat) : Int) ≤ 300) = false := decide_eq_false (by omega)
          repeat (first | (with_reducible first | refine Stp.up ?_ | refine fun (K : AS → Prop) hK => ?_ | refine wE ?_ | refine wD ?_ | refine wK ?_ | refine wF ?_ | refine adrawG_k (by decide) ?_ | refine adrawG_e (by decide) ?_ | (refine hK _ ?_; clear hK; clear K)) | simp only [go_sem, hd, h] | (with_reducible refine And.intro (by omega) ?_) | (clear hK; clear K))
          rw [eT]
      · have e1 : l.take i = l := by rw [show i = l.length by (try simp only [bne_iff_ne, ne_eq, bne_eq_false_iff_eq, beq_iff_eq, beq_eq_false_iff_ne, decide_eq_true_eq, decide_eq_false_iff_not, Bool.not_eq_true', Bool.not_eq_false', Bool.not_eq_eq_eq_not, Bool.not_true, Bool.not_false, Int.natCast_inj, Int.ofNat_lt, Int.ofNat_le] at h); omega, List.take_length]
        repeat (first | (with_reducible first | refine Stp.up ?_ | refine fun (K : AS → Prop) hK => ?_ | refine wE ?_ | refine wD ?_ | refine wK ?_ | refine wF ?_ | refine adrawG_k (by decide) ?_ | refine adrawG_e (by decide) ?_ | (refine hK _ ?_; clear hK; clear K)) | simp only [go_sem, e1, h] | (with_reducible refine And.intro (by omega) ?_) | (clear hK; clear K))
set_option maxRecDepth 100000 in
theorem lof08_c (k : Int) (rows : List (List AV)) (n : Nat) (hw : wfR 0 rows = true) : Call1 Tryd.prog 34 [.v (.int .i64 k), .slc 3 rows n] (.agg [.v (.int .i64 k), .v (.string ⟨#[]⟩), .slc 3 rows n]) := by
  (refine Call1.enter Tryd.func34 rfl (by kernel_rfl) (by kernel_rfl) rfl (by simp only [go_sem, wfL, AV.wf, Bool.and_self, Bool.and_true, Bool.true_and, hw]) (by simp only [go_sem, wfL, AV.wf, wf_encS, Bool.and_self, Bool.and_true, Bool.true_and, hw]) ?_; simp only [Tryd.ntmps34, Tryd.results34, List.length_cons, List.length_nil, Nat.reduceAdd, Nat.reduceSub, List.replicate_succ, List.replicate_zero, List.cons_append, List.nil_append])
  repeat' (first | (with_reducible first | refine Stp.up ?_ | refine fun (K : AS → Prop) hK => ?_ | refine wE ?_ | refine wD ?_ | refine wK ?_ | refine wF ?_ | refine adrawG_k (by decide) ?_ | refine adrawG_e (by decide) ?_ | (refine hK _ ?_; clear hK; clear K)) | simp only [go_sem] | (with_reducible refine And.intro (by omega) ?_) | (clear hK; clear K) | (with_reducible refine ACallV.one (by assumption) ?_) | (with_reducible refine ACallS.one (by assumption) ?_) | (refine AIf.part (fun hb => ?_) (fun hb => ?_) <;> simp only [hb, go_sem]) | (refine AIf.part (fun hb => ?_) (fun hb => ?_)) | (with_reducible refine ABoth.mk ?_ ?_))
  refine AFz.of 40 rfl ?_
  simp only [go_sem, hw]
set_option maxRecDepth 100000 in
theorem llabel08_c (s : ByteArray) : Call1 Tryd.prog 35 [.v (.string s)] (.agg [.v (.int .i64 1), .v (.string s), .v (.slice none 0 0)]) := by
  (refine Call1.enter Tryd.func35 rfl (by kernel_rfl) (by kernel_rfl) rfl (by first | rfl | (simp only [go_sem, Bool.and_self, Bool.and_true, Bool.true_and])) (by first | rfl | (simp only [go_sem, Bool.and_self, Bool.and_true, Bool.true_and])) ?_; simp only [Tryd.ntmps35, Tryd.results35, List.length_cons, List.length_nil, Nat.reduceAdd, Nat.reduceSub, List.replicate_succ, List.replicate_zero, List.cons_append, List.nil_append])
  repeat' (first | (with_reducible first | refine Stp.up ?_ | refine fun (K : AS → Prop) hK => ?_ | refine wE ?_ | refine wD ?_ | refine wK ?_ | refine wF ?_ | refine adrawG_k (by decide) ?_ | refine adrawG_e (by decide) ?_ | (refine hK _ ?_; clear hK; clear K)) | simp only [go_sem] | (with_reducible refine And.intro (by omega) ?_) | (clear hK; clear K) | (with_reducible refine ACallV.one (by assumption) ?_) | (with_reducible refine ACallS.one (by assumption) ?_) | (refine AIf.part (fun hb => ?_) (fun hb => ?_) <;> simp only [hb, go_sem]) | (refine AIf.part (fun hb => ?_) (fun hb => ?_)) | (with_reducible refine ABoth.mk ?_ ?_))
  (refine AFz.of 40 rfl ?_; simp only [go_sem])
end Go.Proofs.YtmdkgajjekbanaaDoor

namespace Go.Proofs.YtmdkgajjekbanaaDoor

structure NewLaw (x : Ex) (s : NSt) : Prop where
  labs : s.labs = labE x
  ok : NOk s
  fst : ∀ q, (s.fs.getD 0 0#32).getLsbD q = true ↔ Fst x 0 q
  fol : ∀ p q, p ≠ 0 → ((s.fs.getD p 0#32).getLsbD q = true ↔ Fol x 0 p q)
  lst : ∀ q, s.la.getLsbD q = true ↔ Lst x 0 q
  em : s.em = exEmpty x
theorem newM_law {x : Ex} (hr : exRight x = true) : NewLaw x (newM x) := by
  have hn := lab_le hr
  have B := bld_law x (st0 x) (by simp [st0]) (by simp [st0]; exact hn)
  have hz : ∀ p, (st0 x).fs.getD p 0#32 = 0#32 := fun p => by
    simp only [st0, List.getD_eq_getElem?_getD, List.getElem?_replicate]; split <;> rfl
  have hb : (st0 x).labs.length = 0 := rfl
  have hl : (newM x).labs = labE x := B.labs
  have hlen : (newM x).fs.length = 25 := by simp only [newM, List.length_set]; exact B.len
  have h0 : ∀ q, ((newM x).fs.getD 0 0#32).getLsbD q = true ↔ Fst x 0 q := fun q => by
    simp only [newM]
    rw [getD_set' (by rw [B.len]; decide), if_pos rfl, B.fst, hb]
  have hp : ∀ p q, p ≠ 0 → (((newM x).fs.getD p 0#32).getLsbD q = true ↔ Fol x 0 p q) := fun p q hp => by
    simp only [newM]
    rw [getD_set' (by rw [B.len]; decide), if_neg hp, B.fol, hb, hz]; simp
  have hla : ∀ q, (newM x).la.getLsbD q = true ↔ Lst x 0 q := fun q => by
    have := B.lst q; rw [hb] at this; exact this
  refine ⟨hl, ⟨hlen, by rw [hl]; exact hn, fun p q h => ?_, fun q h => ?_⟩, h0, hp, hla, ?_⟩
  · rw [hl]
    by_cases e : p = 0
    · subst e; have := Fst_range x ((h0 q).1 h); omega
    · have := (Fol_range x ((hp p q e).1 h)).2; omega
  · rw [hl]; have := Lst_range x ((hla q).1 h); omega
  · show (bld x (st0 x)).1.em = _
    rw [B.em]; simp [st0, emptyB, hr]
end Go.Proofs.YtmdkgajjekbanaaDoor

namespace Go.Proofs.YtmdkgajjekbanaaDoor
open Go.RowKit

end Go.Proofs.YtmdkgajjekbanaaDoor

namespace Go.Proofs.YtmdkgajjekbanaaDoor
open Go.RowKit

def e0 : ByteArray := ⟨#[]⟩

def askA (nm : ByteArray) (l r o : Opd) : List AV := [.slc 8 [[.v (.string ⟨#[97]⟩), .v (.string ⟨#[98]⟩), .v (.bool false), .v (.string ⟨#[120]⟩), .v (.string nm), .v (.int .i64 0), .v (.string e0), .v (.slice none 0 0)]] 1, .slc 13 [encC ⟨3, l, r⟩] 1, .slc 6 [encO o] 1, .v (.int .i64 5), .v (.int .i64 1)]

theorem okS {s : ByteArray} (h : decide (s.size ≤ 100) = true) : okT s := by unfold okT; have := of_decide_eq_true h; omega

end Go.Proofs.YtmdkgajjekbanaaDoor

namespace Go.Proofs.YtmdkgajjekbanaaDoor
open Go.RowKit

section
variable {P : Program}
end
end Go.Proofs.YtmdkgajjekbanaaDoor

namespace Go.Proofs.YtmdkgajjekbanaaDoor
open Go.RowKit

def sA : ByteArray := ⟨#[97]⟩
def sB : ByteArray := ⟨#[98]⟩
def exE : Ex := .mk 4 e0 [.mk 2 e0 [.mk 1 sA [], .mk 1 sB []]]
def exEA : List AV := [.v (.int .i64 4), .v (.string e0), .slc 3 [[.v (.int .i64 2), .v (.string e0), .slc 3 [[.v (.int .i64 1), .v (.string sA), .v (.slice none 0 0)], [.v (.int .i64 1), .v (.string sB), .v (.slice none 0 0)]] 2]] 1]
theorem labA_le (s : ByteArray) : LeL [.v (.int .i64 1), .v (.string s), .v (.slice none 0 0)] (encE (.mk 1 s [])) := by
  simp only [encE_eq, Ex.kind, Ex.label, Ex.kids, List.map_nil, List.length_nil]
  exact .cons (.refl _) (.cons (.refl _) (.cons (.nil 3) .nil))
theorem exE_le : LeL exEA (encE exE) := by
  have h1 : LeL [.v (.int .i64 2), .v (.string e0), .slc 3 [[.v (.int .i64 1), .v (.string sA), .v (.slice none 0 0)], [.v (.int .i64 1), .v (.string sB), .v (.slice none 0 0)]] 2] (encE (.mk 2 e0 [.mk 1 sA [], .mk 1 sB []])) := by
    have := Le.rows (z := 3) (f := fun s => [.v (.int .i64 1), .v (.string s), .v (.slice none 0 0)]) (g := fun s => encE (.mk 1 s [])) (xs := [sA, sB]) (more := []) (fun x _ => labA_le x)
    simp only [encE_eq, Ex.kind, Ex.label, Ex.kids, List.map_nil, List.length_nil, List.map_cons, List.length_cons, List.append_nil, Nat.zero_add, Nat.reduceAdd] at this ⊢
    exact .cons (.refl _) (.cons (.refl _) (.cons this .nil))
  have := Le.rows (z := 3) (f := fun _ : Unit => [.v (.int .i64 2), .v (.string e0), .slc 3 [[.v (.int .i64 1), .v (.string sA), .v (.slice none 0 0)], [.v (.int .i64 1), .v (.string sB), .v (.slice none 0 0)]] 2]) (g := fun _ => encE (.mk 2 e0 [.mk 1 sA [], .mk 1 sB []])) (xs := [()]) (more := []) (fun x _ => h1)
  rw [exE, encE_eq]
  simp only [Ex.kind, Ex.label, Ex.kids, List.map_nil, List.length_nil, List.map_cons, List.length_cons, List.append_nil, Nat.zero_add, Nat.reduceAdd] at this ⊢
  exact .cons (.refl _) (.cons (.refl _) (.cons this .nil))
theorem exE_ok : exE.ok := by
  have h0 : okT e0 := okS (by rfl)
  have hA : okT sA := okS (by rfl)
  have hB : okT sB := okS (by rfl)
  simp only [exE, Ex.ok, exsOk]
  exact ⟨h0, ⟨h0, ⟨hA, trivial⟩, ⟨hB, trivial⟩, trivial⟩, trivial⟩

end Go.Proofs.YtmdkgajjekbanaaDoor
