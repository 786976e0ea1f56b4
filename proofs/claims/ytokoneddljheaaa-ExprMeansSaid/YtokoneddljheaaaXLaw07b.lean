/- kinescopelaw07: the example, ExprMeans: the walks. -/
import Derived.Test.YtokoneddljheaaaXLaw07
import Derived.Test.YtokoneddljheaaaXLawA14
import Derived.Test.YtokoneddljheaaaXJoin
set_option linter.unusedSimpArgs false
set_option linter.unusedVariables false
namespace Go.Proofs.Ytokoneddljheaaa
open Go.RowKit

def sA : ByteArray := ⟨#[97]⟩
def sB : ByteArray := ⟨#[98]⟩
/-- the example -/
def exE : Ex := .mk 4 e0 [.mk 2 e0 [.mk 1 sA [], .mk 1 sB []]]
def exEA : List AV := [.v (.int .i64 4), .v (.string e0), .slc 3 [[.v (.int .i64 2), .v (.string e0), .slc 3 [[.v (.int .i64 1), .v (.string sA), .v (.slice none 0 0)], [.v (.int .i64 1), .v (.string sB), .v (.slice none 0 0)]] 2]] 1]
theorem labA_le (s : ByteArray) : LeL [.v (.int .i64 1), .v (.string s), .v (.slice none 0 0)] (encE (.mk 1 s [])) := by
  simp only [encE_eq, Ex.kind, Ex.label, Ex.kids, List.map_nil, List.length_nil]
  exact .cons (.refl _) (.cons (.refl _) (.cons (.nil 3) .nil))
theorem exE_le : LeL exEA (encE exE) := by
  have h1 : LeL [.v (.int .i64 2), .v (.string e0), .slc 3 [[.v (.int .i64 1), .v (.string sA), .v (.slice none 0 0)], [.v (.int .i64 1), .v (.string sB), .v (.slice none 0 0)]] 2] (encE (.mk 2 e0 [.mk 1 sA [], .mk 1 sB []])) := by
    have := Le.rows (z := 3) (f := fun s => [.v (.int .i64 1), .v (.string s), .v (.slice none 0 0)]) (g := fun s => encE (.mk 1 s [])) (xs := [sA, sB]) (more := []) (fun x _ => labA_le x)
    simp only [encE_eq, Ex.kind, Ex.label, Ex.kids, List.map_nil, List.length_nil, List.map_cons, List.length_cons, List.append_nil, Nat.zero_add, Nat.reduceAdd] at this ⊢
    exact .cons (.refl _) (.cons (.refl _) (.cons this .nil))
  have := Le.rows (z := 3) (f := fun _ : Unit => [.v (.int .i64 2), .v (.string e0), .slc 3 [[.v (.int .i64 1), .v (.string sA), .v (.slice none 0 0)], [.v (.int .i64 1), .v (.string sB), .v (.slice none 0 0)]] 2]) (g := fun _ => encE (.mk 2 e0 [.mk 1 sA [], .mk 1 sB []])) (xs := [()]) (more := []) (fun x _ => h1)
  rw [exE, encE_eq]
  simp only [Ex.kind, Ex.label, Ex.kids, List.map_nil, List.length_nil, List.map_cons, List.length_cons, List.append_nil, Nat.zero_add, Nat.reduceAdd] at this ⊢
  exact .cons (.refl _) (.cons (.refl _) (.cons this .nil))
theorem exE_ok : exE.ok := by
  have h0 : okT e0 := okS (by rfl)
  have hA : okT sA := okS (by rfl)
  have hB : okT sB := okS (by rfl)
  simp only [exE, Ex.ok, exsOk]
  exact ⟨h0, ⟨h0, ⟨hA, trivial⟩, ⟨hB, trivial⟩, trivial⟩, trivial⟩
theorem exE_lg {u : List ByteArray} : Lg (.mk 2 e0 [.mk 1 sA [], .mk 1 sB []]) u ↔ u = [sA, sB] := by
  rw [Lg2]
  simp only [LgSeq, Lg1]
  constructor
  · rintro ⟨u, v, rfl, rfl, u', v', rfl, rfl, rfl⟩; rfl
  · rintro rfl; exact ⟨[sA], [sB], rfl, rfl, [sB], [], rfl, rfl, rfl⟩
theorem exE_even {u : List ByteArray} (h : Lg exE u) : u.length % 2 = 0 := by
  rw [exE, Lg4] at h
  induction h with
  | nil => rfl
  | cons a b _ h2 _ ih =>
    have := exE_lg.1 h2
    subst this
    simp; omega
theorem exE_takes : exTakes exE [sA, sB] = true ∧ exTakes exE [sA, sB, sA, sB] = true ∧ exTakes exE [sA] = false ∧ exTakes exE [sA, sB, sA] = false := by
  have hr : exRight exE = true := by kernel_rfl
  have one : Lg exE [sA, sB] := by rw [exE, Lg4]; exact .one (exE_lg.2 rfl)
  refine ⟨exTakes_iff.2 ⟨hr, one⟩, exTakes_iff.2 ⟨hr, ?_⟩, ?_, ?_⟩
  · rw [exE, Lg4] at one ⊢
    exact one.append one
  · rw [← Bool.not_eq_true, exTakes_iff]
    rintro ⟨_, h⟩
    have := exE_even h
    simp at this
  · rw [← Bool.not_eq_true, exTakes_iff]
    rintro ⟨_, h⟩
    have := exE_even h
    simp at this
set_option maxRecDepth 100000 in
set_option maxHeartbeats 4000000 in
theorem awake07_c : Call1 Try.prog 15 [] (.v (.bool true)) := by
  have L1 := llabel07_c sA
  have L2 := llabel07_c sB
  have O1 := lof07_c 2 [[.v (.int .i64 1), .v (.string sA), .v (.slice none 0 0)], [.v (.int .i64 1), .v (.string sB), .v (.slice none 0 0)]] 2 rfl
  have O2 := lof07_c 4 [[.v (.int .i64 2), .v (.string e0), .slc 3 [[.v (.int .i64 1), .v (.string sA), .v (.slice none 0 0)], [.v (.int .i64 1), .v (.string sB), .v (.slice none 0 0)]] 2]] 1 rfl
  have E := (Empty_c exE exE_ok).le (args' := [.agg exEA]) rfl (.cons exE_le.agg .nil)
  have T := fun (w : List ByteArray) (hw : w.length ≤ 1000) (hww : wfL 0 [.agg exEA, strsA w] = true) => (takes_c exE w exE_ok hw).le (args' := [.agg exEA, strsA w]) hww (.cons exE_le.agg (.cons (.refl _) .nil))
  obtain ⟨t1, t2, t3, t4⟩ := exE_takes
  have T1 := T [sA, sB] (by simp) rfl
  have T2 := T [sA, sB, sA, sB] (by simp) rfl
  have T3 := T [sA] (by simp) rfl
  have T4 := T [sA, sB, sA] (by simp) rfl
  have Z := (exSize_c exE exE_ok (by rw [show (exParts exE).length = 4 by kernel_rfl]; omega)).le (args' := [.agg exEA]) rfl (.cons exE_le.agg .nil)
  rw [t1] at T1
  rw [t2] at T2
  rw [t3] at T3
  rw [t4] at T4
  rw [show emptyB exE = true by kernel_rfl] at E
  rw [show (exParts exE).length = 4 by kernel_rfl] at Z
  clear T
  simp only [exEA, strsA, encS, e0, sA, sB, List.map_cons, List.map_nil, List.length_cons, List.length_nil, Nat.reduceAdd] at L1 L2 O1 O2 E T1 T2 T3 T4 Z
  have c4 : ((4 : Nat) : Int) = 4 := rfl
  rw [c4] at Z
  (refine Call1.enter Try.func15 rfl (by kernel_rfl) (by kernel_rfl) rfl (by first | rfl | (simp only [go_sem, Bool.and_self, Bool.and_true, Bool.true_and])) (by first | rfl | (simp only [go_sem, Bool.and_self, Bool.and_true, Bool.true_and])) ?_; simp only [Try.ntmps15, Try.results15, List.length_cons, List.length_nil, Nat.reduceAdd, Nat.reduceSub, List.replicate_succ, List.replicate_zero, List.cons_append, List.nil_append])
  repeat (first | (with_reducible first | refine Stp.up ?_ | refine fun (K : AS → Prop) hK => ?_ | refine awp_drawE (by decide +kernel) (by kernel_rfl) ?_ | refine awp_draw (by kernel_rfl) (by decide) ?_ | refine awp_boxes (by kernel_rfl) (by kernel_rfl) (by kernel_rfl) ?_ | refine adrawE_k (by decide) ?_ | refine adrawE_eff (by decide) ?_ | refine abox_plain (by decide) ?_ | refine abox_al ?_ | refine abox_st ?_ | refine adrawG_k (by decide) ?_ | refine adrawG_e (by decide) ?_) | (with_reducible refine hK _ ?_; clear hK; clear K) | simp only [go_sem, Nat.reduceAdd, Nat.reduceSub, Nat.reduceMul, Nat.reduceLeDiff, Nat.reduceEqDiff, Nat.reduceLT, Int.reduceToNat, ↓reduceIte, reduceCtorEq, Int.reduceLE, Int.reduceLT, Int.reduceNeg, Int.reduceEq, Int.reduceBEq, Int.reduceBNe] | (with_reducible refine And.intro (by omega) ?_) | (clear hK; clear K))
  refine ACallV.one L1 ?_
  repeat (first | (with_reducible first | refine Stp.up ?_ | refine fun (K : AS → Prop) hK => ?_ | refine awp_drawE (by decide +kernel) (by kernel_rfl) ?_ | refine awp_draw (by kernel_rfl) (by decide) ?_ | refine awp_boxes (by kernel_rfl) (by kernel_rfl) (by kernel_rfl) ?_ | refine adrawE_k (by decide) ?_ | refine adrawE_eff (by decide) ?_ | refine abox_plain (by decide) ?_ | refine abox_al ?_ | refine abox_st ?_ | refine adrawG_k (by decide) ?_ | refine adrawG_e (by decide) ?_) | (with_reducible refine hK _ ?_; clear hK; clear K) | simp only [go_sem, Nat.reduceAdd, Nat.reduceSub, Nat.reduceMul, Nat.reduceLeDiff, Nat.reduceEqDiff, Nat.reduceLT, Int.reduceToNat, ↓reduceIte, reduceCtorEq, Int.reduceLE, Int.reduceLT, Int.reduceNeg, Int.reduceEq, Int.reduceBEq, Int.reduceBNe] | (with_reducible refine And.intro (by omega) ?_) | (clear hK; clear K))
  refine ACallV.one L2 ?_
  repeat (first | (with_reducible first | refine Stp.up ?_ | refine fun (K : AS → Prop) hK => ?_ | refine awp_drawE (by decide +kernel) (by kernel_rfl) ?_ | refine awp_draw (by kernel_rfl) (by decide) ?_ | refine awp_boxes (by kernel_rfl) (by kernel_rfl) (by kernel_rfl) ?_ | refine adrawE_k (by decide) ?_ | refine adrawE_eff (by decide) ?_ | refine abox_plain (by decide) ?_ | refine abox_al ?_ | refine abox_st ?_ | refine adrawG_k (by decide) ?_ | refine adrawG_e (by decide) ?_) | (with_reducible refine hK _ ?_; clear hK; clear K) | simp only [go_sem, Nat.reduceAdd, Nat.reduceSub, Nat.reduceMul, Nat.reduceLeDiff, Nat.reduceEqDiff, Nat.reduceLT, Int.reduceToNat, ↓reduceIte, reduceCtorEq, Int.reduceLE, Int.reduceLT, Int.reduceNeg, Int.reduceEq, Int.reduceBEq, Int.reduceBNe] | (with_reducible refine And.intro (by omega) ?_) | (clear hK; clear K))
  refine ACallV.give O1 rfl (by simp only [go_sem, Nat.reduceLT, Nat.reduceLeDiff, Nat.reduceEqDiff, Nat.lt_add_one, Nat.zero_lt_one, and_self]) ?_
  repeat (first | (with_reducible first | refine Stp.up ?_ | refine fun (K : AS → Prop) hK => ?_ | refine awp_drawE (by decide +kernel) (by kernel_rfl) ?_ | refine awp_draw (by kernel_rfl) (by decide) ?_ | refine awp_boxes (by kernel_rfl) (by kernel_rfl) (by kernel_rfl) ?_ | refine adrawE_k (by decide) ?_ | refine adrawE_eff (by decide) ?_ | refine abox_plain (by decide) ?_ | refine abox_al ?_ | refine abox_st ?_ | refine adrawG_k (by decide) ?_ | refine adrawG_e (by decide) ?_) | (with_reducible refine hK _ ?_; clear hK; clear K) | simp only [go_sem, Nat.reduceAdd, Nat.reduceSub, Nat.reduceMul, Nat.reduceLeDiff, Nat.reduceEqDiff, Nat.reduceLT, Int.reduceToNat, ↓reduceIte, reduceCtorEq, Int.reduceLE, Int.reduceLT, Int.reduceNeg, Int.reduceEq, Int.reduceBEq, Int.reduceBNe] | (with_reducible refine And.intro (by omega) ?_) | (clear hK; clear K))
  refine ACallV.give O2 rfl (by simp only [go_sem, Nat.reduceLT, Nat.reduceLeDiff, Nat.reduceEqDiff, Nat.lt_add_one, Nat.zero_lt_one, and_self]) ?_
  repeat (first | (with_reducible first | refine Stp.up ?_ | refine fun (K : AS → Prop) hK => ?_ | refine awp_drawE (by decide +kernel) (by kernel_rfl) ?_ | refine awp_draw (by kernel_rfl) (by decide) ?_ | refine awp_boxes (by kernel_rfl) (by kernel_rfl) (by kernel_rfl) ?_ | refine adrawE_k (by decide) ?_ | refine adrawE_eff (by decide) ?_ | refine abox_plain (by decide) ?_ | refine abox_al ?_ | refine abox_st ?_ | refine adrawG_k (by decide) ?_ | refine adrawG_e (by decide) ?_) | (with_reducible refine hK _ ?_; clear hK; clear K) | simp only [go_sem, Nat.reduceAdd, Nat.reduceSub, Nat.reduceMul, Nat.reduceLeDiff, Nat.reduceEqDiff, Nat.reduceLT, Int.reduceToNat, ↓reduceIte, reduceCtorEq, Int.reduceLE, Int.reduceLT, Int.reduceNeg, Int.reduceEq, Int.reduceBEq, Int.reduceBNe] | (with_reducible refine And.intro (by omega) ?_) | (clear hK; clear K))
  refine ACallV.one E ?_
  repeat (first | (with_reducible first | refine Stp.up ?_ | refine fun (K : AS → Prop) hK => ?_ | refine awp_drawE (by decide +kernel) (by kernel_rfl) ?_ | refine awp_draw (by kernel_rfl) (by decide) ?_ | refine awp_boxes (by kernel_rfl) (by kernel_rfl) (by kernel_rfl) ?_ | refine adrawE_k (by decide) ?_ | refine adrawE_eff (by decide) ?_ | refine abox_plain (by decide) ?_ | refine abox_al ?_ | refine abox_st ?_ | refine adrawG_k (by decide) ?_ | refine adrawG_e (by decide) ?_) | (with_reducible refine hK _ ?_; clear hK; clear K) | simp only [go_sem, Nat.reduceAdd, Nat.reduceSub, Nat.reduceMul, Nat.reduceLeDiff, Nat.reduceEqDiff, Nat.reduceLT, Int.reduceToNat, ↓reduceIte, reduceCtorEq, Int.reduceLE, Int.reduceLT, Int.reduceNeg, Int.reduceEq, Int.reduceBEq, Int.reduceBNe] | (with_reducible refine And.intro (by omega) ?_) | (clear hK; clear K))
  refine ACallV.frz T1 20 rfl (by simp only [go_sem, Nat.reduceLT, Nat.reduceLeDiff, Nat.reduceEqDiff, Nat.lt_add_one, Nat.zero_lt_one, and_self]) rfl ?_
  repeat (first | (with_reducible first | refine Stp.up ?_ | refine fun (K : AS → Prop) hK => ?_ | refine awp_drawE (by decide +kernel) (by kernel_rfl) ?_ | refine awp_draw (by kernel_rfl) (by decide) ?_ | refine awp_boxes (by kernel_rfl) (by kernel_rfl) (by kernel_rfl) ?_ | refine adrawE_k (by decide) ?_ | refine adrawE_eff (by decide) ?_ | refine abox_plain (by decide) ?_ | refine abox_al ?_ | refine abox_st ?_ | refine adrawG_k (by decide) ?_ | refine adrawG_e (by decide) ?_) | (with_reducible refine hK _ ?_; clear hK; clear K) | simp only [go_sem, Nat.reduceAdd, Nat.reduceSub, Nat.reduceMul, Nat.reduceLeDiff, Nat.reduceEqDiff, Nat.reduceLT, Int.reduceToNat, ↓reduceIte, reduceCtorEq, Int.reduceLE, Int.reduceLT, Int.reduceNeg, Int.reduceEq, Int.reduceBEq, Int.reduceBNe] | (with_reducible refine And.intro (by omega) ?_) | (clear hK; clear K))
  refine ACallV.frz T2 20 rfl (by simp only [go_sem, Nat.reduceLT, Nat.reduceLeDiff, Nat.reduceEqDiff, Nat.lt_add_one, Nat.zero_lt_one, and_self]) rfl ?_
  repeat (first | (with_reducible first | refine Stp.up ?_ | refine fun (K : AS → Prop) hK => ?_ | refine awp_drawE (by decide +kernel) (by kernel_rfl) ?_ | refine awp_draw (by kernel_rfl) (by decide) ?_ | refine awp_boxes (by kernel_rfl) (by kernel_rfl) (by kernel_rfl) ?_ | refine adrawE_k (by decide) ?_ | refine adrawE_eff (by decide) ?_ | refine abox_plain (by decide) ?_ | refine abox_al ?_ | refine abox_st ?_ | refine adrawG_k (by decide) ?_ | refine adrawG_e (by decide) ?_) | (with_reducible refine hK _ ?_; clear hK; clear K) | simp only [go_sem, Nat.reduceAdd, Nat.reduceSub, Nat.reduceMul, Nat.reduceLeDiff, Nat.reduceEqDiff, Nat.reduceLT, Int.reduceToNat, ↓reduceIte, reduceCtorEq, Int.reduceLE, Int.reduceLT, Int.reduceNeg, Int.reduceEq, Int.reduceBEq, Int.reduceBNe] | (with_reducible refine And.intro (by omega) ?_) | (clear hK; clear K))
  refine ACallV.frz T3 20 rfl (by simp only [go_sem, Nat.reduceLT, Nat.reduceLeDiff, Nat.reduceEqDiff, Nat.lt_add_one, Nat.zero_lt_one, and_self]) rfl ?_
  repeat (first | (with_reducible first | refine Stp.up ?_ | refine fun (K : AS → Prop) hK => ?_ | refine awp_drawE (by decide +kernel) (by kernel_rfl) ?_ | refine awp_draw (by kernel_rfl) (by decide) ?_ | refine awp_boxes (by kernel_rfl) (by kernel_rfl) (by kernel_rfl) ?_ | refine adrawE_k (by decide) ?_ | refine adrawE_eff (by decide) ?_ | refine abox_plain (by decide) ?_ | refine abox_al ?_ | refine abox_st ?_ | refine adrawG_k (by decide) ?_ | refine adrawG_e (by decide) ?_) | (with_reducible refine hK _ ?_; clear hK; clear K) | simp only [go_sem, Nat.reduceAdd, Nat.reduceSub, Nat.reduceMul, Nat.reduceLeDiff, Nat.reduceEqDiff, Nat.reduceLT, Int.reduceToNat, ↓reduceIte, reduceCtorEq, Int.reduceLE, Int.reduceLT, Int.reduceNeg, Int.reduceEq, Int.reduceBEq, Int.reduceBNe] | (with_reducible refine And.intro (by omega) ?_) | (clear hK; clear K))
  refine ACallV.frz T4 20 rfl (by simp only [go_sem, Nat.reduceLT, Nat.reduceLeDiff, Nat.reduceEqDiff, Nat.lt_add_one, Nat.zero_lt_one, and_self]) rfl ?_
  repeat (first | (with_reducible first | refine Stp.up ?_ | refine fun (K : AS → Prop) hK => ?_ | refine awp_drawE (by decide +kernel) (by kernel_rfl) ?_ | refine awp_draw (by kernel_rfl) (by decide) ?_ | refine awp_boxes (by kernel_rfl) (by kernel_rfl) (by kernel_rfl) ?_ | refine adrawE_k (by decide) ?_ | refine adrawE_eff (by decide) ?_ | refine abox_plain (by decide) ?_ | refine abox_al ?_ | refine abox_st ?_ | refine adrawG_k (by decide) ?_ | refine adrawG_e (by decide) ?_) | (with_reducible refine hK _ ?_; clear hK; clear K) | simp only [go_sem, Nat.reduceAdd, Nat.reduceSub, Nat.reduceMul, Nat.reduceLeDiff, Nat.reduceEqDiff, Nat.reduceLT, Int.reduceToNat, ↓reduceIte, reduceCtorEq, Int.reduceLE, Int.reduceLT, Int.reduceNeg, Int.reduceEq, Int.reduceBEq, Int.reduceBNe] | (with_reducible refine And.intro (by omega) ?_) | (clear hK; clear K))
  refine ACallV.one Z ?_
  repeat (first | (with_reducible first | refine Stp.up ?_ | refine fun (K : AS → Prop) hK => ?_ | refine awp_drawE (by decide +kernel) (by kernel_rfl) ?_ | refine awp_draw (by kernel_rfl) (by decide) ?_ | refine awp_boxes (by kernel_rfl) (by kernel_rfl) (by kernel_rfl) ?_ | refine adrawE_k (by decide) ?_ | refine adrawE_eff (by decide) ?_ | refine abox_plain (by decide) ?_ | refine abox_al ?_ | refine abox_st ?_ | refine adrawG_k (by decide) ?_ | refine adrawG_e (by decide) ?_) | (with_reducible refine hK _ ?_; clear hK; clear K) | simp only [go_sem, Nat.reduceAdd, Nat.reduceSub, Nat.reduceMul, Nat.reduceLeDiff, Nat.reduceEqDiff, Nat.reduceLT, Int.reduceToNat, ↓reduceIte, reduceCtorEq, Int.reduceLE, Int.reduceLT, Int.reduceNeg, Int.reduceEq, Int.reduceBEq, Int.reduceBNe] | (with_reducible refine And.intro (by omega) ?_) | (clear hK; clear K))
theorem okEx {k : Int} {l : List Ex} (h : ∀ x, x ∈ l → x.ok) : (Ex.mk k ⟨#[]⟩ l).ok := by
  rw [Ex.ok]
  exact ⟨okS (by rfl), exsOk_iff.2 h⟩
theorem encS_cut (w : List ByteArray) {i : Nat} (h : i ≤ w.length) : Le (.slc 1 (w.map encS) i) (.slc 1 ((w.take i).map encS) (w.take i).length) := by
  have := Le.rows (z := 1) (f := encS) (g := encS) (xs := w.take i) (more := (w.drop i).map encS) (fun x _ => .refl _)
  rw [← List.map_append, List.take_append_drop] at this
  rwa [show (w.take i).length = i by simp; omega] at this ⊢
set_option maxRecDepth 100000 in
set_option maxHeartbeats 8000000 in
theorem lawExprMeans_c (a b : Ex) (w : List ByteArray) (ka : a.ok) (kb : b.ok) : Call1 Try.prog 4 [.agg (encE a), .agg (encE b), strsA w] (.v (.bool true)) := by
  obtain ⟨k1, s1, l1⟩ := a
  obtain ⟨k2, s2, l2⟩ := b
  have W := awake07_c
  have G := lgreat07_c w (.mk k1 s1 l1) (.mk k2 s2 l2)
  have RA := exRight_c (.mk k1 s1 l1) ka
  have RB := exRight_c (.mk k2 s2 l2) kb
  simp only [encE_eq, strsA, Ex.kind, Ex.label, Ex.kids] at G RA RB ⊢
  (refine Call1.enter Try.func4 rfl (by kernel_rfl) (by kernel_rfl) rfl (by first | rfl | (simp only [go_sem, Bool.and_self, Bool.and_true, Bool.true_and])) (by first | rfl | (simp only [go_sem, Bool.and_self, Bool.and_true, Bool.true_and])) ?_; simp only [Try.ntmps4, Try.results4, List.length_cons, List.length_nil, Nat.reduceAdd, Nat.reduceSub, List.replicate_succ, List.replicate_zero, List.cons_append, List.nil_append])
  repeat (first | (with_reducible first | refine Stp.up ?_ | refine fun (K : AS → Prop) hK => ?_ | refine awp_drawE (by decide +kernel) (by kernel_rfl) ?_ | refine awp_draw (by kernel_rfl) (by decide) ?_ | refine awp_boxes (by kernel_rfl) (by kernel_rfl) (by kernel_rfl) ?_ | refine adrawE_k (by decide) ?_ | refine adrawE_eff (by decide) ?_ | refine abox_plain (by decide) ?_ | refine abox_al ?_ | refine abox_st ?_ | refine adrawG_k (by decide) ?_ | refine adrawG_e (by decide) ?_) | (with_reducible refine hK _ ?_; clear hK; clear K) | simp only [go_sem, Nat.reduceAdd, Nat.reduceSub, Nat.reduceMul, Nat.reduceLeDiff, Nat.reduceEqDiff, Nat.reduceLT, Int.reduceToNat, ↓reduceIte, reduceCtorEq, Int.reduceLE, Int.reduceLT, Int.reduceNeg, Int.reduceEq, Int.reduceBEq, Int.reduceBNe] | (with_reducible refine And.intro (by omega) ?_) | (clear hK; clear K))
  refine ACallV.one W ?_
  repeat (first | (with_reducible first | refine Stp.up ?_ | refine fun (K : AS → Prop) hK => ?_ | refine awp_drawE (by decide +kernel) (by kernel_rfl) ?_ | refine awp_draw (by kernel_rfl) (by decide) ?_ | refine awp_boxes (by kernel_rfl) (by kernel_rfl) (by kernel_rfl) ?_ | refine adrawE_k (by decide) ?_ | refine adrawE_eff (by decide) ?_ | refine abox_plain (by decide) ?_ | refine abox_al ?_ | refine abox_st ?_ | refine adrawG_k (by decide) ?_ | refine adrawG_e (by decide) ?_) | (with_reducible refine hK _ ?_; clear hK; clear K) | simp only [go_sem, Nat.reduceAdd, Nat.reduceSub, Nat.reduceMul, Nat.reduceLeDiff, Nat.reduceEqDiff, Nat.reduceLT, Int.reduceToNat, ↓reduceIte, reduceCtorEq, Int.reduceLE, Int.reduceLT, Int.reduceNeg, Int.reduceEq, Int.reduceBEq, Int.reduceBNe] | (with_reducible refine And.intro (by omega) ?_) | (clear hK; clear K))
  refine ACallV.frz G 20 rfl (by simp only [go_sem, Nat.reduceLT, Nat.reduceLeDiff, Nat.reduceEqDiff, Nat.lt_add_one, Nat.zero_lt_one, and_self]) rfl ?_
  rcases Bool.eq_false_or_eq_true (greatB w (.mk k1 s1 l1) (.mk k2 s2 l2)) with hg | hg
  · repeat (first | (with_reducible first | refine Stp.up ?_ | refine fun (K : AS → Prop) hK => ?_ | refine awp_drawE (by decide +kernel) (by kernel_rfl) ?_ | refine awp_draw (by kernel_rfl) (by decide) ?_ | refine awp_boxes (by kernel_rfl) (by kernel_rfl) (by kernel_rfl) ?_ | refine adrawE_k (by decide) ?_ | refine adrawE_eff (by decide) ?_ | refine abox_plain (by decide) ?_ | refine abox_al ?_ | refine abox_st ?_ | refine adrawG_k (by decide) ?_ | refine adrawG_e (by decide) ?_) | (with_reducible refine hK _ ?_; clear hK; clear K) | simp only [go_sem, Nat.reduceAdd, Nat.reduceSub, Nat.reduceMul, Nat.reduceLeDiff, Nat.reduceEqDiff, Nat.reduceLT, Int.reduceToNat, ↓reduceIte, reduceCtorEq, Int.reduceLE, Int.reduceLT, Int.reduceNeg, Int.reduceEq, Int.reduceBEq, Int.reduceBNe, hg, Go.undef] | (with_reducible refine And.intro (by omega) ?_) | (clear hK; clear K))
  have hw := great_word hg
  repeat (first | (with_reducible first | refine Stp.up ?_ | refine fun (K : AS → Prop) hK => ?_ | refine awp_drawE (by decide +kernel) (by kernel_rfl) ?_ | refine awp_draw (by kernel_rfl) (by decide) ?_ | refine awp_boxes (by kernel_rfl) (by kernel_rfl) (by kernel_rfl) ?_ | refine adrawE_k (by decide) ?_ | refine adrawE_eff (by decide) ?_ | refine abox_plain (by decide) ?_ | refine abox_al ?_ | refine abox_st ?_ | refine adrawG_k (by decide) ?_ | refine adrawG_e (by decide) ?_) | (with_reducible refine hK _ ?_; clear hK; clear K) | simp only [go_sem, Nat.reduceAdd, Nat.reduceSub, Nat.reduceMul, Nat.reduceLeDiff, Nat.reduceEqDiff, Nat.reduceLT, Int.reduceToNat, ↓reduceIte, reduceCtorEq, Int.reduceLE, Int.reduceLT, Int.reduceNeg, Int.reduceEq, Int.reduceBEq, Int.reduceBNe, hg] | (with_reducible refine And.intro (by omega) ?_) | (clear hK; clear K))
  refine ACallV.one RA ?_
  rcases Bool.eq_false_or_eq_true (exRight (.mk k1 s1 l1)) with ha | ha
  rotate_left 1
  · repeat (first | (with_reducible first | refine Stp.up ?_ | refine fun (K : AS → Prop) hK => ?_ | refine awp_drawE (by decide +kernel) (by kernel_rfl) ?_ | refine awp_draw (by kernel_rfl) (by decide) ?_ | refine awp_boxes (by kernel_rfl) (by kernel_rfl) (by kernel_rfl) ?_ | refine adrawE_k (by decide) ?_ | refine adrawE_eff (by decide) ?_ | refine abox_plain (by decide) ?_ | refine abox_al ?_ | refine abox_st ?_ | refine adrawG_k (by decide) ?_ | refine adrawG_e (by decide) ?_) | (with_reducible refine hK _ ?_; clear hK; clear K) | simp only [go_sem, Nat.reduceAdd, Nat.reduceSub, Nat.reduceMul, Nat.reduceLeDiff, Nat.reduceEqDiff, Nat.reduceLT, Int.reduceToNat, ↓reduceIte, reduceCtorEq, Int.reduceLE, Int.reduceLT, Int.reduceNeg, Int.reduceEq, Int.reduceBEq, Int.reduceBNe, ha, Go.undef] | (with_reducible refine And.intro (by omega) ?_) | (clear hK; clear K))
  repeat (first | (with_reducible first | refine Stp.up ?_ | refine fun (K : AS → Prop) hK => ?_ | refine awp_drawE (by decide +kernel) (by kernel_rfl) ?_ | refine awp_draw (by kernel_rfl) (by decide) ?_ | refine awp_boxes (by kernel_rfl) (by kernel_rfl) (by kernel_rfl) ?_ | refine adrawE_k (by decide) ?_ | refine adrawE_eff (by decide) ?_ | refine abox_plain (by decide) ?_ | refine abox_al ?_ | refine abox_st ?_ | refine adrawG_k (by decide) ?_ | refine adrawG_e (by decide) ?_) | (with_reducible refine hK _ ?_; clear hK; clear K) | simp only [go_sem, Nat.reduceAdd, Nat.reduceSub, Nat.reduceMul, Nat.reduceLeDiff, Nat.reduceEqDiff, Nat.reduceLT, Int.reduceToNat, ↓reduceIte, reduceCtorEq, Int.reduceLE, Int.reduceLT, Int.reduceNeg, Int.reduceEq, Int.reduceBEq, Int.reduceBNe, ha] | (with_reducible refine And.intro (by omega) ?_) | (clear hK; clear K))
  refine ACallV.one RB ?_
  rcases Bool.eq_false_or_eq_true (exRight (.mk k2 s2 l2)) with hb | hb
  rotate_left 1
  · repeat (first | (with_reducible first | refine Stp.up ?_ | refine fun (K : AS → Prop) hK => ?_ | refine awp_drawE (by decide +kernel) (by kernel_rfl) ?_ | refine awp_draw (by kernel_rfl) (by decide) ?_ | refine awp_boxes (by kernel_rfl) (by kernel_rfl) (by kernel_rfl) ?_ | refine adrawE_k (by decide) ?_ | refine adrawE_eff (by decide) ?_ | refine abox_plain (by decide) ?_ | refine abox_al ?_ | refine abox_st ?_ | refine adrawG_k (by decide) ?_ | refine adrawG_e (by decide) ?_) | (with_reducible refine hK _ ?_; clear hK; clear K) | simp only [go_sem, Nat.reduceAdd, Nat.reduceSub, Nat.reduceMul, Nat.reduceLeDiff, Nat.reduceEqDiff, Nat.reduceLT, Int.reduceToNat, ↓reduceIte, reduceCtorEq, Int.reduceLE, Int.reduceLT, Int.reduceNeg, Int.reduceEq, Int.reduceBEq, Int.reduceBNe, hb, Go.undef] | (with_reducible refine And.intro (by omega) ?_) | (clear hK; clear K))
  have la : (exParts (.mk k1 s1 l1)).length ≤ 24 := by simp only [exRight, Bool.and_eq_true, decide_eq_true_eq] at ha; exact ha.1
  have lb : (exParts (.mk k2 s2 l2)).length ≤ 24 := by simp only [exRight, Bool.and_eq_true, decide_eq_true_eq] at hb; exact hb.1
  have ZA := exSize_c (.mk k1 s1 l1) ka (by omega)
  have ZB := exSize_c (.mk k2 s2 l2) kb (by omega)
  simp only [encE_eq, Ex.kind, Ex.label, Ex.kids] at ZA ZB
  repeat (first | (with_reducible first | refine Stp.up ?_ | refine fun (K : AS → Prop) hK => ?_ | refine awp_drawE (by decide +kernel) (by kernel_rfl) ?_ | refine awp_draw (by kernel_rfl) (by decide) ?_ | refine awp_boxes (by kernel_rfl) (by kernel_rfl) (by kernel_rfl) ?_ | refine adrawE_k (by decide) ?_ | refine adrawE_eff (by decide) ?_ | refine abox_plain (by decide) ?_ | refine abox_al ?_ | refine abox_st ?_ | refine adrawG_k (by decide) ?_ | refine adrawG_e (by decide) ?_) | (with_reducible refine hK _ ?_; clear hK; clear K) | simp only [go_sem, Nat.reduceAdd, Nat.reduceSub, Nat.reduceMul, Nat.reduceLeDiff, Nat.reduceEqDiff, Nat.reduceLT, Int.reduceToNat, ↓reduceIte, reduceCtorEq, Int.reduceLE, Int.reduceLT, Int.reduceNeg, Int.reduceEq, Int.reduceBEq, Int.reduceBNe, hb] | (with_reducible refine And.intro (by omega) ?_) | (clear hK; clear K))
  refine ACallV.one ZA ?_
  by_cases na : (exParts (.mk k1 s1 l1)).length ≤ 11
  rotate_left 1
  · have hd : decide (11 < (((exParts (.mk k1 s1 l1)).length : Nat) : Int)) = true := decide_eq_true (by omega)
    repeat (first | (with_reducible first | refine Stp.up ?_ | refine fun (K : AS → Prop) hK => ?_ | refine awp_drawE (by decide +kernel) (by kernel_rfl) ?_ | refine awp_draw (by kernel_rfl) (by decide) ?_ | refine awp_boxes (by kernel_rfl) (by kernel_rfl) (by kernel_rfl) ?_ | refine adrawE_k (by decide) ?_ | refine adrawE_eff (by decide) ?_ | refine abox_plain (by decide) ?_ | refine abox_al ?_ | refine abox_st ?_ | refine adrawG_k (by decide) ?_ | refine adrawG_e (by decide) ?_) | (with_reducible refine hK _ ?_; clear hK; clear K) | simp only [go_sem, Nat.reduceAdd, Nat.reduceSub, Nat.reduceMul, Nat.reduceLeDiff, Nat.reduceEqDiff, Nat.reduceLT, Int.reduceToNat, ↓reduceIte, reduceCtorEq, Int.reduceLE, Int.reduceLT, Int.reduceNeg, Int.reduceEq, Int.reduceBEq, Int.reduceBNe, hd, Go.undef] | (with_reducible refine And.intro (by omega) ?_) | (clear hK; clear K))
  have hda : decide (11 < (((exParts (.mk k1 s1 l1)).length : Nat) : Int)) = false := decide_eq_false (by omega)
  repeat (first | (with_reducible first | refine Stp.up ?_ | refine fun (K : AS → Prop) hK => ?_ | refine awp_drawE (by decide +kernel) (by kernel_rfl) ?_ | refine awp_draw (by kernel_rfl) (by decide) ?_ | refine awp_boxes (by kernel_rfl) (by kernel_rfl) (by kernel_rfl) ?_ | refine adrawE_k (by decide) ?_ | refine adrawE_eff (by decide) ?_ | refine abox_plain (by decide) ?_ | refine abox_al ?_ | refine abox_st ?_ | refine adrawG_k (by decide) ?_ | refine adrawG_e (by decide) ?_) | (with_reducible refine hK _ ?_; clear hK; clear K) | simp only [go_sem, Nat.reduceAdd, Nat.reduceSub, Nat.reduceMul, Nat.reduceLeDiff, Nat.reduceEqDiff, Nat.reduceLT, Int.reduceToNat, ↓reduceIte, reduceCtorEq, Int.reduceLE, Int.reduceLT, Int.reduceNeg, Int.reduceEq, Int.reduceBEq, Int.reduceBNe, hda] | (with_reducible refine And.intro (by omega) ?_) | (clear hK; clear K))
  refine ACallV.one ZB ?_
  by_cases nb : (exParts (.mk k2 s2 l2)).length ≤ 11
  rotate_left 1
  · have hd : decide (11 < (((exParts (.mk k2 s2 l2)).length : Nat) : Int)) = true := decide_eq_true (by omega)
    repeat (first | (with_reducible first | refine Stp.up ?_ | refine fun (K : AS → Prop) hK => ?_ | refine awp_drawE (by decide +kernel) (by kernel_rfl) ?_ | refine awp_draw (by kernel_rfl) (by decide) ?_ | refine awp_boxes (by kernel_rfl) (by kernel_rfl) (by kernel_rfl) ?_ | refine adrawE_k (by decide) ?_ | refine adrawE_eff (by decide) ?_ | refine abox_plain (by decide) ?_ | refine abox_al ?_ | refine abox_st ?_ | refine adrawG_k (by decide) ?_ | refine adrawG_e (by decide) ?_) | (with_reducible refine hK _ ?_; clear hK; clear K) | simp only [go_sem, Nat.reduceAdd, Nat.reduceSub, Nat.reduceMul, Nat.reduceLeDiff, Nat.reduceEqDiff, Nat.reduceLT, Int.reduceToNat, ↓reduceIte, reduceCtorEq, Int.reduceLE, Int.reduceLT, Int.reduceNeg, Int.reduceEq, Int.reduceBEq, Int.reduceBNe, hd, Go.undef] | (with_reducible refine And.intro (by omega) ?_) | (clear hK; clear K))
  have hdb : decide (11 < (((exParts (.mk k2 s2 l2)).length : Nat) : Int)) = false := decide_eq_false (by omega)
  have O2 := fun k => lof07_c k [encE (.mk k1 s1 l1), encE (.mk k2 s2 l2)] 2 (by simp only [go_sem, wf_encE1, Bool.and_self])
  have O1 := fun k => lof07_c k [encE (.mk k1 s1 l1)] 1 (by simp only [go_sem, wf_encE1, Bool.and_self])
  have kab : ∀ k : Int, (Ex.mk k ⟨#[]⟩ [.mk k1 s1 l1, .mk k2 s2 l2]).ok := fun k => okEx (fun x hx => by simp only [List.mem_cons, List.not_mem_nil, or_false] at hx; rcases hx with rfl | rfl; exact ka; exact kb)
  have ka1 : ∀ k : Int, (Ex.mk k ⟨#[]⟩ [.mk k1 s1 l1]).ok := fun k => okEx (fun x hx => by simp only [List.mem_cons, List.not_mem_nil, or_false] at hx; rcases hx with rfl; exact ka)
  have T2 := fun k => takes_c (.mk k ⟨#[]⟩ [.mk k1 s1 l1, .mk k2 s2 l2]) w (kab k) (by omega)
  have T1 := fun k => takes_c (.mk k ⟨#[]⟩ [.mk k1 s1 l1]) w (ka1 k) (by omega)
  have TA := takes_c (.mk k1 s1 l1) w ka (by omega)
  have TB := takes_c (.mk k2 s2 l2) w kb (by omega)
  have e3 := alt_takes ha hb na nb w
  have e2 := seq_takes ha hb na nb w
  have e6 := opt_takes ha na w
  have e5 := plus_takes ha na w
  have e4 := star_takes ha na w
  have T3 := T2 3
  have T2 := T2 2
  have T4 := T1 4
  have T5 := T1 5
  have T6 := T1 6
  have O23 := O2 3
  have O22 := O2 2
  have O14 := O1 4
  have O15 := O1 5
  have O16 := O1 6
  clear O1 O2 T1
  have TAk := fun k (hk : k ≤ w.length) => (takes_c (.mk k1 s1 l1) (w.take k) ka (by simp; omega)).le (args' := [.agg (encE (.mk k1 s1 l1)), .slc 1 (w.map encS) k]) (by simp only [go_sem, wf_encE1, wf_encS, Bool.and_self]) (.cons (.refl _) (.cons (encS_cut w hk) .nil))
  have TBk := fun k (hk : k ≤ w.length) => takes_c (.mk k2 s2 l2) (w.drop k) kb (by simp; omega)
  have TSk := fun k (hk : k ≤ w.length) => takes_c (.mk 4 ⟨#[]⟩ [.mk k1 s1 l1]) (w.drop k) (ka1 4) (by simp; omega)
  rw [e3] at T3
  rw [e2] at T2
  rw [e6] at T6
  rw [e5] at T5
  rw [e4] at T4
  clear e2 e3 e4 e5 e6
  generalize exTakes (.mk 4 ⟨#[]⟩ [.mk k1 s1 l1]) = fS at *
  generalize exTakes (.mk k1 s1 l1) = fA at *
  generalize exTakes (.mk k2 s2 l2) = fB at *
  simp only [encE_eq, Ex.kind, Ex.label, Ex.kids, strsA, List.map_cons, List.map_nil, List.length_cons, List.length_nil, Nat.zero_add, Nat.reduceAdd, List.map_drop, List.length_drop] at O14 O15 O16 O22 O23 T2 T3 T4 T5 T6 TA TB TAk TBk TSk
  clear G RA RB ZA ZB W
  repeat (first | (with_reducible first | refine Stp.up ?_ | refine fun (K : AS → Prop) hK => ?_ | refine awp_drawE (by decide +kernel) (by kernel_rfl) ?_ | refine awp_draw (by kernel_rfl) (by decide) ?_ | refine awp_boxes (by kernel_rfl) (by kernel_rfl) (by kernel_rfl) ?_ | refine adrawE_k (by decide) ?_ | refine adrawE_eff (by decide) ?_ | refine abox_plain (by decide) ?_ | refine abox_al ?_ | refine abox_st ?_ | refine adrawG_k (by decide) ?_ | refine adrawG_e (by decide) ?_) | (with_reducible refine hK _ ?_; clear hK; clear K) | simp only [go_sem, Nat.reduceAdd, Nat.reduceSub, Nat.reduceMul, Nat.reduceLeDiff, Nat.reduceEqDiff, Nat.reduceLT, Int.reduceToNat, ↓reduceIte, reduceCtorEq, Int.reduceLE, Int.reduceLT, Int.reduceNeg, Int.reduceEq, Int.reduceBEq, Int.reduceBNe, hdb] | (with_reducible refine And.intro (by omega) ?_) | (clear hK; clear K))
  refine ACallV.give O14 rfl (by simp only [go_sem, Nat.reduceLT, Nat.reduceLeDiff, Nat.reduceEqDiff, Nat.lt_add_one, Nat.zero_lt_one, and_self]) ?_
  have hz : ((w.length : Int) == 0) = decide (w.length = 0) := by rw [Bool.eq_iff_iff]; simp
  repeat ((fail_if_success (with_reducible refine stopR (i := 6) ?_)); first | (with_reducible first | refine Stp.up ?_ | refine fun (K : AS → Prop) hK => ?_ | refine adrawE_k (by decide) ?_ | refine adrawE_eff (by decide) ?_ | refine abox_plain (by decide) ?_ | refine abox_al ?_ | refine abox_st ?_ | refine adrawG_k (by decide) ?_ | refine adrawG_e (by decide) ?_) | (with_reducible refine hK _ ?_; clear hK; clear K) | simp only [go_sem, Nat.reduceAdd, Nat.reduceSub, Nat.reduceMul, Nat.reduceLeDiff, Nat.reduceEqDiff, Nat.reduceLT, Int.reduceToNat, ↓reduceIte, reduceCtorEq, Int.reduceLE, Int.reduceLT, Int.reduceNeg, Int.reduceEq, Int.reduceBEq, Int.reduceBNe] | (with_reducible refine And.intro (by omega) ?_) | (clear hK; clear K))
  refine awp_join ⟨frm 149 [(2, .slc 1 (w.map encS) w.length), (3, .ptr 0 0 3 0 0), (4, .ptr 1 0 3 0 0), (6, .v (.bool false)), (7, .ptr 4 0 3 0 0), (73, .v (.bool false))], [some ⟨39, 3, false, [[.v (.int .i64 k1), .v (.string s1), .slc 3 (l1.map encE) l1.length]]⟩, some ⟨39, 3, false, [[.v (.int .i64 k2), .v (.string s2), .slc 3 (l2.map encE) l2.length]]⟩, none, none, some ⟨39, 3, false, [[.v (.int .i64 4), .v (.string ⟨#[]⟩), .slc 3 [[.v (.int .i64 k1), .v (.string s1), .slc 3 (l1.map encE) l1.length]] 1]]⟩], .no⟩ (by kernel_rfl) ?_ ?_
  · rcases Bool.eq_false_or_eq_true (fA w) with hA | hA <;> rcases Bool.eq_false_or_eq_true (fB w) with hB | hB <;> rcases Bool.eq_false_or_eq_true (decide (w.length = 0)) with hZ | hZ
    all_goals
      rw [hA, hB] at T3
      rw [hA, hZ] at T6
      rw [hA] at TA
      rw [hB] at TB
      rw [hZ] at hz
      simp only [Bool.or_true, Bool.true_or, Bool.or_false] at T3 T6
      refine awp_draw (by kernel_rfl) (by decide) ?_
      repeat (first | (with_reducible first | refine Stp.up ?_ | refine fun (K : AS → Prop) hK => ?_ | refine adrawE_k (by decide) ?_ | refine adrawE_eff (by decide) ?_ | refine abox_plain (by decide) ?_ | refine abox_al ?_ | refine abox_st ?_ | refine adrawG_k (by decide) ?_ | refine adrawG_e (by decide) ?_) | (with_reducible refine hK _ ?_; clear hK; clear K) | simp only [go_sem, Nat.reduceAdd, Nat.reduceSub, Nat.reduceMul, Nat.reduceLeDiff, Nat.reduceEqDiff, Nat.reduceLT, Int.reduceToNat, ↓reduceIte, reduceCtorEq, Int.reduceLE, Int.reduceLT, Int.reduceNeg, Int.reduceEq, Int.reduceBEq, Int.reduceBNe, hz, Go.undef] | (with_reducible refine And.intro (by omega) ?_) | (clear hK; clear K))
      repeat ((first | (with_reducible refine ACallS.one (by assumption) ?_)); repeat (first | (with_reducible first | refine Stp.up ?_ | refine fun (K : AS → Prop) hK => ?_ | refine adrawE_k (by decide) ?_ | refine adrawE_eff (by decide) ?_ | refine abox_plain (by decide) ?_ | refine abox_al ?_ | refine abox_st ?_ | refine adrawG_k (by decide) ?_ | refine adrawG_e (by decide) ?_) | (with_reducible refine hK _ ?_; clear hK; clear K) | simp only [go_sem, Nat.reduceAdd, Nat.reduceSub, Nat.reduceMul, Nat.reduceLeDiff, Nat.reduceEqDiff, Nat.reduceLT, Int.reduceToNat, ↓reduceIte, reduceCtorEq, Int.reduceLE, Int.reduceLT, Int.reduceNeg, Int.reduceEq, Int.reduceBEq, Int.reduceBNe, hz, Go.undef] | (with_reducible refine And.intro (by omega) ?_) | (clear hK; clear K)))
      try (refine ⟨rfl, ?_⟩)
      (refine wk_mk ?_ ?_ ?_ <;> simp only [frm, List.foldl_cons, List.foldl_nil, List.replicate_succ, List.replicate_zero, WkT, WkO, AV.v.injEq, Value.int.injEq, Value.bool.injEq, Value.string.injEq, AV.vec.injEq, AV.ptr.injEq, true_or, or_true, false_or, or_false, AObj.mk.injEq, forall_eq_apply_imp_iff, forall_eq, forall_eq', go_sem, Nat.reduceAdd, Nat.reduceSub, Nat.reduceMul, Nat.reduceLeDiff, Nat.reduceEqDiff, Nat.reduceLT, Int.reduceToNat, ↓reduceIte, reduceCtorEq, Int.reduceLE, Int.reduceLT, Int.reduceNeg, Int.reduceEq, Int.reduceBEq, Int.reduceBNe])
  simp only [frm, List.foldl_cons, List.foldl_nil, List.replicate_succ, List.replicate_zero, go_sem, Nat.reduceAdd, Nat.reduceSub, Nat.reduceMul, Nat.reduceLeDiff, Nat.reduceEqDiff, Nat.reduceLT, Int.reduceToNat, ↓reduceIte, reduceCtorEq, Int.reduceLE, Int.reduceLT, Int.reduceNeg, Int.reduceEq, Int.reduceBEq, Int.reduceBNe]
  clear T3 T6
  repeat ((fail_if_success (with_reducible refine stopR (i := 10) ?_)); first | (with_reducible first | refine Stp.up ?_ | refine fun (K : AS → Prop) hK => ?_ | refine adrawE_k (by decide) ?_ | refine adrawE_eff (by decide) ?_ | refine abox_plain (by decide) ?_ | refine abox_al ?_ | refine abox_st ?_ | refine adrawG_k (by decide) ?_ | refine adrawG_e (by decide) ?_) | (with_reducible refine hK _ ?_; clear hK; clear K) | simp only [go_sem, Nat.reduceAdd, Nat.reduceSub, Nat.reduceMul, Nat.reduceLeDiff, Nat.reduceEqDiff, Nat.reduceLT, Int.reduceToNat, ↓reduceIte, reduceCtorEq, Int.reduceLE, Int.reduceLT, Int.reduceNeg, Int.reduceEq, Int.reduceBEq, Int.reduceBNe] | (with_reducible refine And.intro (by omega) ?_) | (clear hK; clear K))
  refine awp_loopK (ι := Nat) 77 (fun k => [(8, .v (.bool (partAt fA fB w k))), (9, .v (.bool (moreAt fA fS w k))), (10, .v (.bool (partAt fA fS w k))), (11, .v (.int .i64 k)), (12, .undef), (73, .undef), (74, .undef), (75, .undef), (76, .undef)]) (fun k => w.length + 1 - k) (fun k => k ≤ w.length + 1) 0 (Nat.zero_le _) ?_ ?_
  · (refine wk_mk ?_ ?_ ?_ <;> simp only [frm, List.foldl_cons, List.foldl_nil, List.replicate_succ, List.replicate_zero, WkT, WkO, AV.v.injEq, Value.int.injEq, Value.bool.injEq, Value.string.injEq, AV.vec.injEq, AV.ptr.injEq, true_or, or_true, false_or, or_false, AObj.mk.injEq, forall_eq_apply_imp_iff, forall_eq, forall_eq', go_sem, Nat.reduceAdd, Nat.reduceSub, Nat.reduceMul, Nat.reduceLeDiff, Nat.reduceEqDiff, Nat.reduceLT, Int.reduceToNat, ↓reduceIte, reduceCtorEq, Int.reduceLE, Int.reduceLT, Int.reduceNeg, Int.reduceEq, Int.reduceBEq, Int.reduceBNe])
    exact ⟨rfl, by rw [hz]; simp [moreAt], rfl, rfl⟩
  rintro k hk K hK
  repeat (first | (with_reducible first | refine Stp.up ?_ | refine fun (K : AS → Prop) hK => ?_ | refine awp_drawE (by decide +kernel) (by kernel_rfl) ?_ | refine awp_draw (by kernel_rfl) (by decide) ?_ | refine awp_boxes (by kernel_rfl) (by kernel_rfl) (by kernel_rfl) ?_ | refine adrawE_k (by decide) ?_ | refine adrawE_eff (by decide) ?_ | refine abox_plain (by decide) ?_ | refine abox_al ?_ | refine abox_st ?_ | refine adrawG_k (by decide) ?_ | refine adrawG_e (by decide) ?_) | (with_reducible refine hK _ ?_; clear hK; clear K) | simp only [go_sem, Nat.reduceAdd, Nat.reduceSub, Nat.reduceMul, Nat.reduceLeDiff, Nat.reduceEqDiff, Nat.reduceLT, Int.reduceToNat, ↓reduceIte, reduceCtorEq, Int.reduceLE, Int.reduceLT, Int.reduceNeg, Int.reduceEq, Int.reduceBEq, Int.reduceBNe] | (with_reducible refine And.intro (by omega) ?_) | (clear hK; clear K))
  refine AIf.part (fun h => ?_) (fun h => ?_)
  · have hkl : k ≤ w.length := by (try simp only [bne_iff_ne, ne_eq, bne_eq_false_iff_eq, beq_iff_eq, beq_eq_false_iff_ne, decide_eq_true_eq, decide_eq_false_iff_not, Bool.not_eq_true', Bool.not_eq_false', Bool.not_eq_eq_eq_not, Bool.not_true, Bool.not_false, Int.natCast_inj, Int.ofNat_lt, Int.ofNat_le] at h); omega
    have eW := wrap_succ (k := k) (by omega)
    have Ak := TAk k hkl
    have Bk := TBk k hkl
    have Sk := TSk k hkl
    have p8 := partAt_succ fA fB w k
    have p9 := moreAt_succ fA fS w k
    have p10 := partAt_succ fA fS w k
    generalize fB (w.drop k) = Bv at Bk p8
    generalize fS (w.drop k) = Sv at Sk p9 p10
    have eLn : (w.map encS).length = w.length := List.length_map _
    have eD : (w.map encS).drop k = (w.map encS).drop k := rfl
    repeat (first | (with_reducible first | refine Stp.up ?_ | refine fun (K : AS → Prop) hK => ?_ | refine awp_drawE (by decide +kernel) (by kernel_rfl) ?_ | refine awp_draw (by kernel_rfl) (by decide) ?_ | refine awp_boxes (by kernel_rfl) (by kernel_rfl) (by kernel_rfl) ?_ | refine adrawE_k (by decide) ?_ | refine adrawE_eff (by decide) ?_ | refine abox_plain (by decide) ?_ | refine abox_al ?_ | refine abox_st ?_ | refine adrawG_k (by decide) ?_ | refine adrawG_e (by decide) ?_) | (with_reducible refine hK _ ?_; clear hK; clear K) | simp only [go_sem, Nat.reduceAdd, Nat.reduceSub, Nat.reduceMul, Nat.reduceLeDiff, Nat.reduceEqDiff, Nat.reduceLT, Int.reduceToNat, ↓reduceIte, reduceCtorEq, Int.reduceLE, Int.reduceLT, Int.reduceNeg, Int.reduceEq, Int.reduceBEq, Int.reduceBNe, eLn] | (with_reducible refine And.intro (by omega) ?_) | (clear hK; clear K))
    refine ACallS.one Ak ?_
    generalize fA (w.take k) = F at p8 p9 p10 ⊢
    repeat ((fail_if_success (with_reducible refine stopR (i := 13) ?_)); first | (with_reducible first | refine Stp.up ?_ | refine fun (K : AS → Prop) hK => ?_ | refine adrawE_k (by decide) ?_ | refine adrawE_eff (by decide) ?_ | refine abox_plain (by decide) ?_ | refine abox_al ?_ | refine abox_st ?_ | refine adrawG_k (by decide) ?_ | refine adrawG_e (by decide) ?_) | (with_reducible refine hK _ ?_; clear hK; clear K) | simp only [go_sem, Nat.reduceAdd, Nat.reduceSub, Nat.reduceMul, Nat.reduceLeDiff, Nat.reduceEqDiff, Nat.reduceLT, Int.reduceToNat, ↓reduceIte, reduceCtorEq, Int.reduceLE, Int.reduceLT, Int.reduceNeg, Int.reduceEq, Int.reduceBEq, Int.reduceBNe] | (with_reducible refine And.intro (by omega) ?_) | (clear hK; clear K))
    refine awp_join ⟨frm 149 [(2, .slc 1 (w.map encS) w.length), (3, .ptr 0 0 3 0 0), (4, .ptr 1 0 3 0 0), (6, .v (.bool false)), (7, .ptr 4 0 3 0 0), (8, .v (.bool (partAt fA fB w (k + 1)))), (9, .v (.bool (moreAt fA fS w k))), (10, .v (.bool (partAt fA fS w k))), (11, .v (.int .i64 k)), (12, .v (.bool F))], [some ⟨39, 3, false, [[.v (.int .i64 k1), .v (.string s1), .slc 3 (l1.map encE) l1.length]]⟩, some ⟨39, 3, false, [[.v (.int .i64 k2), .v (.string s2), .slc 3 (l2.map encE) l2.length]]⟩, none, none, some ⟨39, 3, false, [[.v (.int .i64 4), .v (.string ⟨#[]⟩), .slc 3 [[.v (.int .i64 k1), .v (.string s1), .slc 3 (l1.map encE) l1.length]] 1]]⟩], .no⟩ (by kernel_rfl) ?_ ?_
    · have hG : (1 : Nat) = 1 := rfl
      have hG2 : (1 : Nat) = 1 := rfl
      rcases Bool.eq_false_or_eq_true (partAt fA fB w k) with hP | hP <;> rcases Bool.eq_false_or_eq_true F with hF | hF
      all_goals
        (try rw [hF] at p8)
        (try rw [hP] at p8)
        (try rw [hG2] at p8)
        (try simp only [Bool.or_true, Bool.true_or, Bool.or_false, Bool.false_or, Bool.and_true, Bool.true_and, Bool.and_false, Bool.false_and] at p8)
        refine awp_drawG [] [] (by decide +kernel) (by kernel_rfl) ?_
        repeat (first | (with_reducible first | refine Stp.up ?_ | refine fun (K : AS → Prop) hK => ?_ | refine adrawE_k (by decide) ?_ | refine adrawE_eff (by decide) ?_ | refine abox_plain (by decide) ?_ | refine abox_al ?_ | refine abox_st ?_ | refine adrawG_k (by decide) ?_ | refine adrawG_e (by decide) ?_) | (with_reducible refine hK _ ?_; clear hK; clear K) | simp only [go_sem, Nat.reduceAdd, Nat.reduceSub, Nat.reduceMul, Nat.reduceLeDiff, Nat.reduceEqDiff, Nat.reduceLT, Int.reduceToNat, ↓reduceIte, reduceCtorEq, Int.reduceLE, Int.reduceLT, Int.reduceNeg, Int.reduceEq, Int.reduceBEq, Int.reduceBNe, hF, hP, hG, eLn, Go.undef] | (with_reducible refine And.intro (by omega) ?_) | (clear hK; clear K))
        repeat ((first | (with_reducible refine ACallS.one (by assumption) ?_)); repeat (first | (with_reducible first | refine Stp.up ?_ | refine fun (K : AS → Prop) hK => ?_ | refine adrawE_k (by decide) ?_ | refine adrawE_eff (by decide) ?_ | refine abox_plain (by decide) ?_ | refine abox_al ?_ | refine abox_st ?_ | refine adrawG_k (by decide) ?_ | refine adrawG_e (by decide) ?_) | (with_reducible refine hK _ ?_; clear hK; clear K) | simp only [go_sem, Nat.reduceAdd, Nat.reduceSub, Nat.reduceMul, Nat.reduceLeDiff, Nat.reduceEqDiff, Nat.reduceLT, Int.reduceToNat, ↓reduceIte, reduceCtorEq, Int.reduceLE, Int.reduceLT, Int.reduceNeg, Int.reduceEq, Int.reduceBEq, Int.reduceBNe, hF, hP, hG, eLn, Go.undef] | (with_reducible refine And.intro (by omega) ?_) | (clear hK; clear K)))
        try (refine ⟨rfl, ?_⟩)
        simp only [p8]
        (refine wk_mk ?_ ?_ ?_ <;> simp only [frm, List.foldl_cons, List.foldl_nil, List.replicate_succ, List.replicate_zero, WkT, WkO, AV.v.injEq, Value.int.injEq, Value.bool.injEq, Value.string.injEq, AV.vec.injEq, AV.ptr.injEq, true_or, or_true, false_or, or_false, AObj.mk.injEq, forall_eq_apply_imp_iff, forall_eq, forall_eq', go_sem, Nat.reduceAdd, Nat.reduceSub, Nat.reduceMul, Nat.reduceLeDiff, Nat.reduceEqDiff, Nat.reduceLT, Int.reduceToNat, ↓reduceIte, reduceCtorEq, Int.reduceLE, Int.reduceLT, Int.reduceNeg, Int.reduceEq, Int.reduceBEq, Int.reduceBNe])
    simp only [frm, List.foldl_cons, List.foldl_nil, List.replicate_succ, List.replicate_zero, go_sem, Nat.reduceAdd, Nat.reduceSub, Nat.reduceMul, Nat.reduceLeDiff, Nat.reduceEqDiff, Nat.reduceLT, Int.reduceToNat, ↓reduceIte, reduceCtorEq, Int.reduceLE, Int.reduceLT, Int.reduceNeg, Int.reduceEq, Int.reduceBEq, Int.reduceBNe]
    repeat ((fail_if_success (with_reducible refine stopR (i := 14) ?_)); first | (with_reducible first | refine Stp.up ?_ | refine fun (K : AS → Prop) hK => ?_ | refine adrawE_k (by decide) ?_ | refine adrawE_eff (by decide) ?_ | refine abox_plain (by decide) ?_ | refine abox_al ?_ | refine abox_st ?_ | refine adrawG_k (by decide) ?_ | refine adrawG_e (by decide) ?_) | (with_reducible refine hK _ ?_; clear hK; clear K) | simp only [go_sem, Nat.reduceAdd, Nat.reduceSub, Nat.reduceMul, Nat.reduceLeDiff, Nat.reduceEqDiff, Nat.reduceLT, Int.reduceToNat, ↓reduceIte, reduceCtorEq, Int.reduceLE, Int.reduceLT, Int.reduceNeg, Int.reduceEq, Int.reduceBEq, Int.reduceBNe] | (with_reducible refine And.intro (by omega) ?_) | (clear hK; clear K))
    refine awp_join ⟨frm 149 [(2, .slc 1 (w.map encS) w.length), (3, .ptr 0 0 3 0 0), (4, .ptr 1 0 3 0 0), (6, .v (.bool false)), (7, .ptr 4 0 3 0 0), (8, .v (.bool (partAt fA fB w (k + 1)))), (9, .v (.bool (moreAt fA fS w (k + 1)))), (10, .v (.bool (partAt fA fS w k))), (11, .v (.int .i64 k)), (12, .v (.bool F))], [some ⟨39, 3, false, [[.v (.int .i64 k1), .v (.string s1), .slc 3 (l1.map encE) l1.length]]⟩, some ⟨39, 3, false, [[.v (.int .i64 k2), .v (.string s2), .slc 3 (l2.map encE) l2.length]]⟩, none, none, some ⟨39, 3, false, [[.v (.int .i64 4), .v (.string ⟨#[]⟩), .slc 3 [[.v (.int .i64 k1), .v (.string s1), .slc 3 (l1.map encE) l1.length]] 1]]⟩], .no⟩ (by kernel_rfl) ?_ ?_
    · obtain ⟨hG, hG2⟩ | ⟨hG, hG2⟩ : (decide (0 < (k : Int)) = true ∧ decide (0 < k) = true) ∨ (decide (0 < (k : Int)) = false ∧ decide (0 < k) = false) := by
        rcases Nat.eq_zero_or_pos k with e | e
        · exact .inr ⟨decide_eq_false (by omega), decide_eq_false (by omega)⟩
        · exact .inl ⟨decide_eq_true (by omega), decide_eq_true (by omega)⟩
      all_goals rcases Bool.eq_false_or_eq_true (moreAt fA fS w k) with hP | hP <;> rcases Bool.eq_false_or_eq_true F with hF | hF
      all_goals
        (try rw [hF] at p9)
        (try rw [hP] at p9)
        (try rw [hG2] at p9)
        (try simp only [Bool.or_true, Bool.true_or, Bool.or_false, Bool.false_or, Bool.and_true, Bool.true_and, Bool.and_false, Bool.false_and] at p9)
        refine awp_drawG [] [] (by decide +kernel) (by kernel_rfl) ?_
        repeat (first | (with_reducible first | refine Stp.up ?_ | refine fun (K : AS → Prop) hK => ?_ | refine adrawE_k (by decide) ?_ | refine adrawE_eff (by decide) ?_ | refine abox_plain (by decide) ?_ | refine abox_al ?_ | refine abox_st ?_ | refine adrawG_k (by decide) ?_ | refine adrawG_e (by decide) ?_) | (with_reducible refine hK _ ?_; clear hK; clear K) | simp only [go_sem, Nat.reduceAdd, Nat.reduceSub, Nat.reduceMul, Nat.reduceLeDiff, Nat.reduceEqDiff, Nat.reduceLT, Int.reduceToNat, ↓reduceIte, reduceCtorEq, Int.reduceLE, Int.reduceLT, Int.reduceNeg, Int.reduceEq, Int.reduceBEq, Int.reduceBNe, hF, hP, hG, eLn, Go.undef] | (with_reducible refine And.intro (by omega) ?_) | (clear hK; clear K))
        repeat ((first | (with_reducible refine ACallS.one (by assumption) ?_)); repeat (first | (with_reducible first | refine Stp.up ?_ | refine fun (K : AS → Prop) hK => ?_ | refine adrawE_k (by decide) ?_ | refine adrawE_eff (by decide) ?_ | refine abox_plain (by decide) ?_ | refine abox_al ?_ | refine abox_st ?_ | refine adrawG_k (by decide) ?_ | refine adrawG_e (by decide) ?_) | (with_reducible refine hK _ ?_; clear hK; clear K) | simp only [go_sem, Nat.reduceAdd, Nat.reduceSub, Nat.reduceMul, Nat.reduceLeDiff, Nat.reduceEqDiff, Nat.reduceLT, Int.reduceToNat, ↓reduceIte, reduceCtorEq, Int.reduceLE, Int.reduceLT, Int.reduceNeg, Int.reduceEq, Int.reduceBEq, Int.reduceBNe, hF, hP, hG, eLn, Go.undef] | (with_reducible refine And.intro (by omega) ?_) | (clear hK; clear K)))
        try (refine ⟨rfl, ?_⟩)
        simp only [p9]
        (refine wk_mk ?_ ?_ ?_ <;> simp only [frm, List.foldl_cons, List.foldl_nil, List.replicate_succ, List.replicate_zero, WkT, WkO, AV.v.injEq, Value.int.injEq, Value.bool.injEq, Value.string.injEq, AV.vec.injEq, AV.ptr.injEq, true_or, or_true, false_or, or_false, AObj.mk.injEq, forall_eq_apply_imp_iff, forall_eq, forall_eq', go_sem, Nat.reduceAdd, Nat.reduceSub, Nat.reduceMul, Nat.reduceLeDiff, Nat.reduceEqDiff, Nat.reduceLT, Int.reduceToNat, ↓reduceIte, reduceCtorEq, Int.reduceLE, Int.reduceLT, Int.reduceNeg, Int.reduceEq, Int.reduceBEq, Int.reduceBNe])
    simp only [frm, List.foldl_cons, List.foldl_nil, List.replicate_succ, List.replicate_zero, go_sem, Nat.reduceAdd, Nat.reduceSub, Nat.reduceMul, Nat.reduceLeDiff, Nat.reduceEqDiff, Nat.reduceLT, Int.reduceToNat, ↓reduceIte, reduceCtorEq, Int.reduceLE, Int.reduceLT, Int.reduceNeg, Int.reduceEq, Int.reduceBEq, Int.reduceBNe]
    repeat ((fail_if_success (with_reducible refine stopR (i := 15) ?_)); first | (with_reducible first | refine Stp.up ?_ | refine fun (K : AS → Prop) hK => ?_ | refine adrawE_k (by decide) ?_ | refine adrawE_eff (by decide) ?_ | refine abox_plain (by decide) ?_ | refine abox_al ?_ | refine abox_st ?_ | refine adrawG_k (by decide) ?_ | refine adrawG_e (by decide) ?_) | (with_reducible refine hK _ ?_; clear hK; clear K) | simp only [go_sem, Nat.reduceAdd, Nat.reduceSub, Nat.reduceMul, Nat.reduceLeDiff, Nat.reduceEqDiff, Nat.reduceLT, Int.reduceToNat, ↓reduceIte, reduceCtorEq, Int.reduceLE, Int.reduceLT, Int.reduceNeg, Int.reduceEq, Int.reduceBEq, Int.reduceBNe] | (with_reducible refine And.intro (by omega) ?_) | (clear hK; clear K))
    refine awp_join ⟨frm 149 [(2, .slc 1 (w.map encS) w.length), (3, .ptr 0 0 3 0 0), (4, .ptr 1 0 3 0 0), (6, .v (.bool false)), (7, .ptr 4 0 3 0 0), (8, .v (.bool (partAt fA fB w (k + 1)))), (9, .v (.bool (moreAt fA fS w (k + 1)))), (10, .v (.bool (partAt fA fS w (k + 1)))), (11, .v (.int .i64 k)), (12, .v (.bool F))], [some ⟨39, 3, false, [[.v (.int .i64 k1), .v (.string s1), .slc 3 (l1.map encE) l1.length]]⟩, some ⟨39, 3, false, [[.v (.int .i64 k2), .v (.string s2), .slc 3 (l2.map encE) l2.length]]⟩, none, none, some ⟨39, 3, false, [[.v (.int .i64 4), .v (.string ⟨#[]⟩), .slc 3 [[.v (.int .i64 k1), .v (.string s1), .slc 3 (l1.map encE) l1.length]] 1]]⟩], .no⟩ (by kernel_rfl) ?_ ?_
    · have hG : (1 : Nat) = 1 := rfl
      have hG2 : (1 : Nat) = 1 := rfl
      rcases Bool.eq_false_or_eq_true (partAt fA fS w k) with hP | hP <;> rcases Bool.eq_false_or_eq_true F with hF | hF
      all_goals
        (try rw [hF] at p10)
        (try rw [hP] at p10)
        (try rw [hG2] at p10)
        (try simp only [Bool.or_true, Bool.true_or, Bool.or_false, Bool.false_or, Bool.and_true, Bool.true_and, Bool.and_false, Bool.false_and] at p10)
        refine awp_drawG [] [] (by decide +kernel) (by kernel_rfl) ?_
        repeat (first | (with_reducible first | refine Stp.up ?_ | refine fun (K : AS → Prop) hK => ?_ | refine adrawE_k (by decide) ?_ | refine adrawE_eff (by decide) ?_ | refine abox_plain (by decide) ?_ | refine abox_al ?_ | refine abox_st ?_ | refine adrawG_k (by decide) ?_ | refine adrawG_e (by decide) ?_) | (with_reducible refine hK _ ?_; clear hK; clear K) | simp only [go_sem, Nat.reduceAdd, Nat.reduceSub, Nat.reduceMul, Nat.reduceLeDiff, Nat.reduceEqDiff, Nat.reduceLT, Int.reduceToNat, ↓reduceIte, reduceCtorEq, Int.reduceLE, Int.reduceLT, Int.reduceNeg, Int.reduceEq, Int.reduceBEq, Int.reduceBNe, hF, hP, hG, eLn, Go.undef] | (with_reducible refine And.intro (by omega) ?_) | (clear hK; clear K))
        repeat ((first | (with_reducible refine ACallS.one (by assumption) ?_)); repeat (first | (with_reducible first | refine Stp.up ?_ | refine fun (K : AS → Prop) hK => ?_ | refine adrawE_k (by decide) ?_ | refine adrawE_eff (by decide) ?_ | refine abox_plain (by decide) ?_ | refine abox_al ?_ | refine abox_st ?_ | refine adrawG_k (by decide) ?_ | refine adrawG_e (by decide) ?_) | (with_reducible refine hK _ ?_; clear hK; clear K) | simp only [go_sem, Nat.reduceAdd, Nat.reduceSub, Nat.reduceMul, Nat.reduceLeDiff, Nat.reduceEqDiff, Nat.reduceLT, Int.reduceToNat, ↓reduceIte, reduceCtorEq, Int.reduceLE, Int.reduceLT, Int.reduceNeg, Int.reduceEq, Int.reduceBEq, Int.reduceBNe, hF, hP, hG, eLn, Go.undef] | (with_reducible refine And.intro (by omega) ?_) | (clear hK; clear K)))
        try (refine ⟨rfl, ?_⟩)
        simp only [p10]
        (refine wk_mk ?_ ?_ ?_ <;> simp only [frm, List.foldl_cons, List.foldl_nil, List.replicate_succ, List.replicate_zero, WkT, WkO, AV.v.injEq, Value.int.injEq, Value.bool.injEq, Value.string.injEq, AV.vec.injEq, AV.ptr.injEq, true_or, or_true, false_or, or_false, AObj.mk.injEq, forall_eq_apply_imp_iff, forall_eq, forall_eq', go_sem, Nat.reduceAdd, Nat.reduceSub, Nat.reduceMul, Nat.reduceLeDiff, Nat.reduceEqDiff, Nat.reduceLT, Int.reduceToNat, ↓reduceIte, reduceCtorEq, Int.reduceLE, Int.reduceLT, Int.reduceNeg, Int.reduceEq, Int.reduceBEq, Int.reduceBNe])
    simp only [frm, List.foldl_cons, List.foldl_nil, List.replicate_succ, List.replicate_zero, go_sem, Nat.reduceAdd, Nat.reduceSub, Nat.reduceMul, Nat.reduceLeDiff, Nat.reduceEqDiff, Nat.reduceLT, Int.reduceToNat, ↓reduceIte, reduceCtorEq, Int.reduceLE, Int.reduceLT, Int.reduceNeg, Int.reduceEq, Int.reduceBEq, Int.reduceBNe]
    repeat (first | (with_reducible first | refine Stp.up ?_ | refine fun (K : AS → Prop) hK => ?_ | refine awp_drawE (by decide +kernel) (by kernel_rfl) ?_ | refine awp_draw (by kernel_rfl) (by decide) ?_ | refine awp_boxes (by kernel_rfl) (by kernel_rfl) (by kernel_rfl) ?_ | refine adrawE_k (by decide) ?_ | refine adrawE_eff (by decide) ?_ | refine abox_plain (by decide) ?_ | refine abox_al ?_ | refine abox_st ?_ | refine adrawG_k (by decide) ?_ | refine adrawG_e (by decide) ?_) | (with_reducible refine hK _ ?_; clear hK; clear K) | simp only [go_sem, Nat.reduceAdd, Nat.reduceSub, Nat.reduceMul, Nat.reduceLeDiff, Nat.reduceEqDiff, Nat.reduceLT, Int.reduceToNat, ↓reduceIte, reduceCtorEq, Int.reduceLE, Int.reduceLT, Int.reduceNeg, Int.reduceEq, Int.reduceBEq, Int.reduceBNe, eW] | (with_reducible refine And.intro (by omega) ?_) | (clear hK; clear K))
    exact LNext.mk (k + 1) (by omega) (by omega) (by (refine wk_mk ?_ ?_ ?_ <;> simp only [frm, List.foldl_cons, List.foldl_nil, List.replicate_succ, List.replicate_zero, WkT, WkO, AV.v.injEq, Value.int.injEq, Value.bool.injEq, Value.string.injEq, AV.vec.injEq, AV.ptr.injEq, true_or, or_true, false_or, or_false, AObj.mk.injEq, forall_eq_apply_imp_iff, forall_eq, forall_eq', go_sem, Nat.reduceAdd, Nat.reduceSub, Nat.reduceMul, Nat.reduceLeDiff, Nat.reduceEqDiff, Nat.reduceLT, Int.reduceToNat, ↓reduceIte, reduceCtorEq, Int.reduceLE, Int.reduceLT, Int.reduceNeg, Int.reduceEq, Int.reduceBEq, Int.reduceBNe]))
  · have hke : k = w.length + 1 := by (try simp only [bne_iff_ne, ne_eq, bne_eq_false_iff_eq, beq_iff_eq, beq_eq_false_iff_ne, decide_eq_true_eq, decide_eq_false_iff_not, Bool.not_eq_true', Bool.not_eq_false', Bool.not_eq_eq_eq_not, Bool.not_true, Bool.not_false, Int.natCast_inj, Int.ofNat_lt, Int.ofNat_le] at h); omega
    rw [← hke] at T2 T4 T5
    generalize partAt fA fB w k = P8 at T2 ⊢
    generalize moreAt fA fS w k = P9 at T4 ⊢
    generalize partAt fA fS w k = P10 at T5 ⊢
    repeat (first | (with_reducible first | refine Stp.up ?_ | refine fun (K : AS → Prop) hK => ?_ | refine awp_drawE (by decide +kernel) (by kernel_rfl) ?_ | refine awp_draw (by kernel_rfl) (by decide) ?_ | refine awp_boxes (by kernel_rfl) (by kernel_rfl) (by kernel_rfl) ?_ | refine adrawE_k (by decide) ?_ | refine adrawE_eff (by decide) ?_ | refine abox_plain (by decide) ?_ | refine abox_al ?_ | refine abox_st ?_ | refine adrawG_k (by decide) ?_ | refine adrawG_e (by decide) ?_) | (with_reducible refine hK _ ?_; clear hK; clear K) | simp only [go_sem, Nat.reduceAdd, Nat.reduceSub, Nat.reduceMul, Nat.reduceLeDiff, Nat.reduceEqDiff, Nat.reduceLT, Int.reduceToNat, ↓reduceIte, reduceCtorEq, Int.reduceLE, Int.reduceLT, Int.reduceNeg, Int.reduceEq, Int.reduceBEq, Int.reduceBNe] | (with_reducible refine And.intro (by omega) ?_) | (clear hK; clear K))
    refine ACallV.give O22 rfl (by simp only [go_sem, Nat.reduceLT, Nat.reduceLeDiff, Nat.reduceEqDiff, Nat.lt_add_one, Nat.zero_lt_one, and_self]) ?_
    repeat (first | (with_reducible first | refine Stp.up ?_ | refine fun (K : AS → Prop) hK => ?_ | refine awp_drawE (by decide +kernel) (by kernel_rfl) ?_ | refine awp_draw (by kernel_rfl) (by decide) ?_ | refine awp_boxes (by kernel_rfl) (by kernel_rfl) (by kernel_rfl) ?_ | refine adrawE_k (by decide) ?_ | refine adrawE_eff (by decide) ?_ | refine abox_plain (by decide) ?_ | refine abox_al ?_ | refine abox_st ?_ | refine adrawG_k (by decide) ?_ | refine adrawG_e (by decide) ?_) | (with_reducible refine hK _ ?_; clear hK; clear K) | simp only [go_sem, Nat.reduceAdd, Nat.reduceSub, Nat.reduceMul, Nat.reduceLeDiff, Nat.reduceEqDiff, Nat.reduceLT, Int.reduceToNat, ↓reduceIte, reduceCtorEq, Int.reduceLE, Int.reduceLT, Int.reduceNeg, Int.reduceEq, Int.reduceBEq, Int.reduceBNe] | (with_reducible refine And.intro (by omega) ?_) | (clear hK; clear K))
    refine ACallV.one T2 ?_
    repeat (first | (with_reducible first | refine Stp.up ?_ | refine fun (K : AS → Prop) hK => ?_ | refine awp_drawE (by decide +kernel) (by kernel_rfl) ?_ | refine awp_draw (by kernel_rfl) (by decide) ?_ | refine awp_boxes (by kernel_rfl) (by kernel_rfl) (by kernel_rfl) ?_ | refine adrawE_k (by decide) ?_ | refine adrawE_eff (by decide) ?_ | refine abox_plain (by decide) ?_ | refine abox_al ?_ | refine abox_st ?_ | refine adrawG_k (by decide) ?_ | refine adrawG_e (by decide) ?_) | (with_reducible refine hK _ ?_; clear hK; clear K) | simp only [go_sem, Nat.reduceAdd, Nat.reduceSub, Nat.reduceMul, Nat.reduceLeDiff, Nat.reduceEqDiff, Nat.reduceLT, Int.reduceToNat, ↓reduceIte, reduceCtorEq, Int.reduceLE, Int.reduceLT, Int.reduceNeg, Int.reduceEq, Int.reduceBEq, Int.reduceBNe, beq_self_eq_true] | (with_reducible refine And.intro (by omega) ?_) | (clear hK; clear K))
    refine ACallV.one T4 ?_
    repeat (first | (with_reducible first | refine Stp.up ?_ | refine fun (K : AS → Prop) hK => ?_ | refine awp_drawE (by decide +kernel) (by kernel_rfl) ?_ | refine awp_draw (by kernel_rfl) (by decide) ?_ | refine awp_boxes (by kernel_rfl) (by kernel_rfl) (by kernel_rfl) ?_ | refine adrawE_k (by decide) ?_ | refine adrawE_eff (by decide) ?_ | refine abox_plain (by decide) ?_ | refine abox_al ?_ | refine abox_st ?_ | refine adrawG_k (by decide) ?_ | refine adrawG_e (by decide) ?_) | (with_reducible refine hK _ ?_; clear hK; clear K) | simp only [go_sem, Nat.reduceAdd, Nat.reduceSub, Nat.reduceMul, Nat.reduceLeDiff, Nat.reduceEqDiff, Nat.reduceLT, Int.reduceToNat, ↓reduceIte, reduceCtorEq, Int.reduceLE, Int.reduceLT, Int.reduceNeg, Int.reduceEq, Int.reduceBEq, Int.reduceBNe, beq_self_eq_true] | (with_reducible refine And.intro (by omega) ?_) | (clear hK; clear K))
    refine ACallV.give O15 rfl (by simp only [go_sem, Nat.reduceLT, Nat.reduceLeDiff, Nat.reduceEqDiff, Nat.lt_add_one, Nat.zero_lt_one, and_self]) ?_
    repeat (first | (with_reducible first | refine Stp.up ?_ | refine fun (K : AS → Prop) hK => ?_ | refine awp_drawE (by decide +kernel) (by kernel_rfl) ?_ | refine awp_draw (by kernel_rfl) (by decide) ?_ | refine awp_boxes (by kernel_rfl) (by kernel_rfl) (by kernel_rfl) ?_ | refine adrawE_k (by decide) ?_ | refine adrawE_eff (by decide) ?_ | refine abox_plain (by decide) ?_ | refine abox_al ?_ | refine abox_st ?_ | refine adrawG_k (by decide) ?_ | refine adrawG_e (by decide) ?_) | (with_reducible refine hK _ ?_; clear hK; clear K) | simp only [go_sem, Nat.reduceAdd, Nat.reduceSub, Nat.reduceMul, Nat.reduceLeDiff, Nat.reduceEqDiff, Nat.reduceLT, Int.reduceToNat, ↓reduceIte, reduceCtorEq, Int.reduceLE, Int.reduceLT, Int.reduceNeg, Int.reduceEq, Int.reduceBEq, Int.reduceBNe, beq_self_eq_true] | (with_reducible refine And.intro (by omega) ?_) | (clear hK; clear K))
    refine ACallV.one T5 ?_
    repeat (first | (with_reducible first | refine Stp.up ?_ | refine fun (K : AS → Prop) hK => ?_ | refine awp_drawE (by decide +kernel) (by kernel_rfl) ?_ | refine awp_draw (by kernel_rfl) (by decide) ?_ | refine awp_boxes (by kernel_rfl) (by kernel_rfl) (by kernel_rfl) ?_ | refine adrawE_k (by decide) ?_ | refine adrawE_eff (by decide) ?_ | refine abox_plain (by decide) ?_ | refine abox_al ?_ | refine abox_st ?_ | refine adrawG_k (by decide) ?_ | refine adrawG_e (by decide) ?_) | (with_reducible refine hK _ ?_; clear hK; clear K) | simp only [go_sem, Nat.reduceAdd, Nat.reduceSub, Nat.reduceMul, Nat.reduceLeDiff, Nat.reduceEqDiff, Nat.reduceLT, Int.reduceToNat, ↓reduceIte, reduceCtorEq, Int.reduceLE, Int.reduceLT, Int.reduceNeg, Int.reduceEq, Int.reduceBEq, Int.reduceBNe, beq_self_eq_true] | (with_reducible refine And.intro (by omega) ?_) | (clear hK; clear K))
end Go.Proofs.Ytokoneddljheaaa
