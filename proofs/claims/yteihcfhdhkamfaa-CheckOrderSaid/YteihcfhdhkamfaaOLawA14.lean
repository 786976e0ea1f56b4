/- kinescopelaw14: operands, the example: the walks. -/
import Derived.Test.YteihcfhdhkamfaaOChk3
import Derived.Test.YteihcfhdhkamfaaOSize14
import Derived.Test.YteihcfhdhkamfaaOLe
set_option linter.unusedSimpArgs false
set_option linter.unusedVariables false
namespace Go.Proofs.Yteihcfhdhkamfaa
open Go.RowKit

theorem size14_c (q : Qry) (hq : q.small) : Call1 Try.prog 30 [.agg (encQ q)] (.v (.int .i64 (szQ q : Nat))) :=
  .of_ret (by kernel_rfl) (by simp only [wfL, AV.wf, wf_encQ, Bool.and_self]) (fun D nu w vargs h => by
    obtain ⟨x, rfl, hx⟩ := ras_one h
    obtain ⟨cx, rfl, kx⟩ := ra_qry hx
    exact size14_any q cx w kx hq)

def e0 : ByteArray := ⟨#[]⟩
def vtxO (s : ByteArray) : Opd := ⟨1, s, e0, ⟨0, 0, e0⟩⟩
def prpO (s k : ByteArray) : Opd := ⟨2, s, k, ⟨0, 0, e0⟩⟩
def numO (n : Int) : Opd := ⟨3, e0, e0, ⟨1, n, e0⟩⟩
def txtO (s : ByteArray) : Opd := ⟨3, e0, e0, ⟨2, 0, s⟩⟩
set_option maxRecDepth 100000 in
theorem vertex14_c (s : ByteArray) : Call1 Try.prog 37 [.v (.string s)] (.agg (encO (vtxO s))) := by
  simp only [encO, vtxO, e0]
  (refine Call1.enter Try.func37 rfl (by kernel_rfl) (by kernel_rfl) rfl (by first | rfl | (simp only [go_sem, Bool.and_self, Bool.and_true, Bool.true_and])) (by first | rfl | (simp only [go_sem, Bool.and_self, Bool.and_true, Bool.true_and])) ?_; simp only [Try.ntmps37, Try.results37, List.length_cons, List.length_nil, Nat.reduceAdd, Nat.reduceSub, List.replicate_succ, List.replicate_zero, List.cons_append, List.nil_append])
  repeat' (first | (with_reducible first | refine Stp.up ?_ | refine fun (K : AS → Prop) hK => ?_ | refine awp_drawE (by decide +kernel) (by kernel_rfl) ?_ | refine awp_draw (by kernel_rfl) (by decide) ?_ | refine awp_boxes (by kernel_rfl) (by kernel_rfl) (by kernel_rfl) ?_ | refine adrawE_k (by decide) ?_ | refine adrawE_eff (by decide) ?_ | refine abox_plain (by decide) ?_ | refine abox_al ?_ | refine abox_st ?_ | refine adrawG_k (by decide) ?_ | refine adrawG_e (by decide) ?_) | (with_reducible refine hK _ ?_; clear hK; clear K) | simp only [go_sem, Nat.reduceAdd, Nat.reduceSub, Nat.reduceMul, Nat.reduceLeDiff, Nat.reduceEqDiff, Nat.reduceLT, Int.reduceToNat, ↓reduceIte, reduceCtorEq, Int.reduceLE, Int.reduceLT, Int.reduceNeg, Int.reduceEq, Int.reduceBEq, Int.reduceBNe] | (with_reducible refine And.intro (by omega) ?_) | (clear hK; clear K) | (with_reducible refine ACallV.one (by assumption) ?_) | (with_reducible refine ACallS.one (by assumption) ?_) | (refine AIf.part (fun hb => ?_) (fun hb => ?_) <;> simp only [hb, go_sem, Nat.reduceAdd, Nat.reduceSub, Nat.reduceMul, Nat.reduceLeDiff, Nat.reduceEqDiff, Nat.reduceLT, Int.reduceToNat, ↓reduceIte, reduceCtorEq, Int.reduceLE, Int.reduceLT, Int.reduceNeg, Int.reduceEq, Int.reduceBEq, Int.reduceBNe]) | (refine AIf.part (fun hb => ?_) (fun hb => ?_)) | (with_reducible refine ABoth.mk ?_ ?_))
  (refine AFz.of 40 rfl ?_; simp only [go_sem, Nat.reduceAdd, Nat.reduceSub, Nat.reduceMul, Nat.reduceLeDiff, Nat.reduceEqDiff, Nat.reduceLT, Int.reduceToNat, ↓reduceIte, reduceCtorEq, Int.reduceLE, Int.reduceLT, Int.reduceNeg, Int.reduceEq, Int.reduceBEq, Int.reduceBNe])
set_option maxRecDepth 100000 in
theorem prop14_c (s k : ByteArray) : Call1 Try.prog 38 [.v (.string s), .v (.string k)] (.agg (encO (prpO s k))) := by
  simp only [encO, prpO, e0]
  (refine Call1.enter Try.func38 rfl (by kernel_rfl) (by kernel_rfl) rfl (by first | rfl | (simp only [go_sem, Bool.and_self, Bool.and_true, Bool.true_and])) (by first | rfl | (simp only [go_sem, Bool.and_self, Bool.and_true, Bool.true_and])) ?_; simp only [Try.ntmps38, Try.results38, List.length_cons, List.length_nil, Nat.reduceAdd, Nat.reduceSub, List.replicate_succ, List.replicate_zero, List.cons_append, List.nil_append])
  repeat' (first | (with_reducible first | refine Stp.up ?_ | refine fun (K : AS → Prop) hK => ?_ | refine awp_drawE (by decide +kernel) (by kernel_rfl) ?_ | refine awp_draw (by kernel_rfl) (by decide) ?_ | refine awp_boxes (by kernel_rfl) (by kernel_rfl) (by kernel_rfl) ?_ | refine adrawE_k (by decide) ?_ | refine adrawE_eff (by decide) ?_ | refine abox_plain (by decide) ?_ | refine abox_al ?_ | refine abox_st ?_ | refine adrawG_k (by decide) ?_ | refine adrawG_e (by decide) ?_) | (with_reducible refine hK _ ?_; clear hK; clear K) | simp only [go_sem, Nat.reduceAdd, Nat.reduceSub, Nat.reduceMul, Nat.reduceLeDiff, Nat.reduceEqDiff, Nat.reduceLT, Int.reduceToNat, ↓reduceIte, reduceCtorEq, Int.reduceLE, Int.reduceLT, Int.reduceNeg, Int.reduceEq, Int.reduceBEq, Int.reduceBNe] | (with_reducible refine And.intro (by omega) ?_) | (clear hK; clear K) | (with_reducible refine ACallV.one (by assumption) ?_) | (with_reducible refine ACallS.one (by assumption) ?_) | (refine AIf.part (fun hb => ?_) (fun hb => ?_) <;> simp only [hb, go_sem, Nat.reduceAdd, Nat.reduceSub, Nat.reduceMul, Nat.reduceLeDiff, Nat.reduceEqDiff, Nat.reduceLT, Int.reduceToNat, ↓reduceIte, reduceCtorEq, Int.reduceLE, Int.reduceLT, Int.reduceNeg, Int.reduceEq, Int.reduceBEq, Int.reduceBNe]) | (refine AIf.part (fun hb => ?_) (fun hb => ?_)) | (with_reducible refine ABoth.mk ?_ ?_))
  (refine AFz.of 40 rfl ?_; simp only [go_sem, Nat.reduceAdd, Nat.reduceSub, Nat.reduceMul, Nat.reduceLeDiff, Nat.reduceEqDiff, Nat.reduceLT, Int.reduceToNat, ↓reduceIte, reduceCtorEq, Int.reduceLE, Int.reduceLT, Int.reduceNeg, Int.reduceEq, Int.reduceBEq, Int.reduceBNe])
set_option maxRecDepth 100000 in
theorem num14_c (n : Int) : Call1 Try.prog 39 [.v (.int .i64 n)] (.agg (encO (numO n))) := by
  simp only [encO, numO, e0]
  (refine Call1.enter Try.func39 rfl (by kernel_rfl) (by kernel_rfl) rfl (by first | rfl | (simp only [go_sem, Bool.and_self, Bool.and_true, Bool.true_and])) (by first | rfl | (simp only [go_sem, Bool.and_self, Bool.and_true, Bool.true_and])) ?_; simp only [Try.ntmps39, Try.results39, List.length_cons, List.length_nil, Nat.reduceAdd, Nat.reduceSub, List.replicate_succ, List.replicate_zero, List.cons_append, List.nil_append])
  repeat' (first | (with_reducible first | refine Stp.up ?_ | refine fun (K : AS → Prop) hK => ?_ | refine awp_drawE (by decide +kernel) (by kernel_rfl) ?_ | refine awp_draw (by kernel_rfl) (by decide) ?_ | refine awp_boxes (by kernel_rfl) (by kernel_rfl) (by kernel_rfl) ?_ | refine adrawE_k (by decide) ?_ | refine adrawE_eff (by decide) ?_ | refine abox_plain (by decide) ?_ | refine abox_al ?_ | refine abox_st ?_ | refine adrawG_k (by decide) ?_ | refine adrawG_e (by decide) ?_) | (with_reducible refine hK _ ?_; clear hK; clear K) | simp only [go_sem, Nat.reduceAdd, Nat.reduceSub, Nat.reduceMul, Nat.reduceLeDiff, Nat.reduceEqDiff, Nat.reduceLT, Int.reduceToNat, ↓reduceIte, reduceCtorEq, Int.reduceLE, Int.reduceLT, Int.reduceNeg, Int.reduceEq, Int.reduceBEq, Int.reduceBNe] | (with_reducible refine And.intro (by omega) ?_) | (clear hK; clear K) | (with_reducible refine ACallV.one (by assumption) ?_) | (with_reducible refine ACallS.one (by assumption) ?_) | (refine AIf.part (fun hb => ?_) (fun hb => ?_) <;> simp only [hb, go_sem, Nat.reduceAdd, Nat.reduceSub, Nat.reduceMul, Nat.reduceLeDiff, Nat.reduceEqDiff, Nat.reduceLT, Int.reduceToNat, ↓reduceIte, reduceCtorEq, Int.reduceLE, Int.reduceLT, Int.reduceNeg, Int.reduceEq, Int.reduceBEq, Int.reduceBNe]) | (refine AIf.part (fun hb => ?_) (fun hb => ?_)) | (with_reducible refine ABoth.mk ?_ ?_))
  (refine AFz.of 40 rfl ?_; simp only [go_sem, Nat.reduceAdd, Nat.reduceSub, Nat.reduceMul, Nat.reduceLeDiff, Nat.reduceEqDiff, Nat.reduceLT, Int.reduceToNat, ↓reduceIte, reduceCtorEq, Int.reduceLE, Int.reduceLT, Int.reduceNeg, Int.reduceEq, Int.reduceBEq, Int.reduceBNe])
set_option maxRecDepth 100000 in
theorem text14_c (s : ByteArray) : Call1 Try.prog 40 [.v (.string s)] (.agg (encO (txtO s))) := by
  simp only [encO, txtO, e0]
  (refine Call1.enter Try.func40 rfl (by kernel_rfl) (by kernel_rfl) rfl (by first | rfl | (simp only [go_sem, Bool.and_self, Bool.and_true, Bool.true_and])) (by first | rfl | (simp only [go_sem, Bool.and_self, Bool.and_true, Bool.true_and])) ?_; simp only [Try.ntmps40, Try.results40, List.length_cons, List.length_nil, Nat.reduceAdd, Nat.reduceSub, List.replicate_succ, List.replicate_zero, List.cons_append, List.nil_append])
  repeat' (first | (with_reducible first | refine Stp.up ?_ | refine fun (K : AS → Prop) hK => ?_ | refine awp_drawE (by decide +kernel) (by kernel_rfl) ?_ | refine awp_draw (by kernel_rfl) (by decide) ?_ | refine awp_boxes (by kernel_rfl) (by kernel_rfl) (by kernel_rfl) ?_ | refine adrawE_k (by decide) ?_ | refine adrawE_eff (by decide) ?_ | refine abox_plain (by decide) ?_ | refine abox_al ?_ | refine abox_st ?_ | refine adrawG_k (by decide) ?_ | refine adrawG_e (by decide) ?_) | (with_reducible refine hK _ ?_; clear hK; clear K) | simp only [go_sem, Nat.reduceAdd, Nat.reduceSub, Nat.reduceMul, Nat.reduceLeDiff, Nat.reduceEqDiff, Nat.reduceLT, Int.reduceToNat, ↓reduceIte, reduceCtorEq, Int.reduceLE, Int.reduceLT, Int.reduceNeg, Int.reduceEq, Int.reduceBEq, Int.reduceBNe] | (with_reducible refine And.intro (by omega) ?_) | (clear hK; clear K) | (with_reducible refine ACallV.one (by assumption) ?_) | (with_reducible refine ACallS.one (by assumption) ?_) | (refine AIf.part (fun hb => ?_) (fun hb => ?_) <;> simp only [hb, go_sem, Nat.reduceAdd, Nat.reduceSub, Nat.reduceMul, Nat.reduceLeDiff, Nat.reduceEqDiff, Nat.reduceLT, Int.reduceToNat, ↓reduceIte, reduceCtorEq, Int.reduceLE, Int.reduceLT, Int.reduceNeg, Int.reduceEq, Int.reduceBEq, Int.reduceBNe]) | (refine AIf.part (fun hb => ?_) (fun hb => ?_)) | (with_reducible refine ABoth.mk ?_ ?_))
  (refine AFz.of 40 rfl ?_; simp only [go_sem, Nat.reduceAdd, Nat.reduceSub, Nat.reduceMul, Nat.reduceLeDiff, Nat.reduceEqDiff, Nat.reduceLT, Int.reduceToNat, ↓reduceIte, reduceCtorEq, Int.reduceLE, Int.reduceLT, Int.reduceNeg, Int.reduceEq, Int.reduceBEq, Int.reduceBNe])

def askQ (nm : ByteArray) (l r o : Opd) : Qry := ⟨[⟨⟨#[97]⟩, ⟨#[98]⟩, false, ⟨#[120]⟩, nm, .mk 0 e0 []⟩], [⟨3, l, r⟩], [o], 5, 1⟩
/-- as it comes: an expression without kids -/
def askA (nm : ByteArray) (l r o : Opd) : List AV := [.slc 8 [[.v (.string ⟨#[97]⟩), .v (.string ⟨#[98]⟩), .v (.bool false), .v (.string ⟨#[120]⟩), .v (.string nm), .v (.int .i64 0), .v (.string e0), .v (.slice none 0 0)]] 1, .slc 13 [encC ⟨3, l, r⟩] 1, .slc 6 [encO o] 1, .v (.int .i64 5), .v (.int .i64 1)]
theorem askA_le (nm : ByteArray) (l r o : Opd) : LeL (askA nm l r o) (encQ (askQ nm l r o)) := by
  refine .cons (.slc _ _ _ _ (by simp [askQ]) (by simp [askQ]) (fun i r r' h1 h2 => ?_) (fun i j r r' c c' h1 h2 h3 h4 => ?_)) (.cons (.refl _) (.cons (.refl _) (.cons (.refl _) (.cons (.refl _) .nil))))
  · match i, h1, h2 with
    | 0, h1, h2 => cases h1; cases h2; rfl
    | i + 1, h1, h2 => simp at h1
  · match i, h1, h2 with
    | 0, h1, h2 =>
      cases h1; cases h2
      have : LeL [.v (.string ⟨#[97]⟩), .v (.string ⟨#[98]⟩), .v (.bool false), .v (.string ⟨#[120]⟩), .v (.string nm), .v (.int .i64 0), .v (.string e0), .v (.slice none 0 0)] (encP ⟨⟨#[97]⟩, ⟨#[98]⟩, false, ⟨#[120]⟩, nm, .mk 0 e0 []⟩) := .cons (.refl _) (.cons (.refl _) (.cons (.refl _) (.cons (.refl _) (.cons (.refl _) (.cons (.refl _) (.cons (.refl _) (.cons (.nil 3) .nil)))))))
      exact this.2 j c c' h3 h4
    | i + 1, h1, h2 => simp at h1
theorem askA_wf (n : Nat) (nm : ByteArray) (l r o : Opd) : wfL n (askA nm l r o) = true := rfl
set_option maxRecDepth 100000 in
set_option maxHeartbeats 4000000 in
theorem ask14_c (nm : ByteArray) (l r o : Opd) : Call1 Try.prog 41 [.v (.string nm), .agg (encO l), .agg (encO r), .agg (encO o)] (.agg (askA nm l r o)) := by
  simp only [encO, askA, encC, e0]
  (refine Call1.enter Try.func41 rfl (by kernel_rfl) (by kernel_rfl) rfl (by first | rfl | (simp only [go_sem, Bool.and_self, Bool.and_true, Bool.true_and])) (by first | rfl | (simp only [go_sem, Bool.and_self, Bool.and_true, Bool.true_and])) ?_; simp only [Try.ntmps41, Try.results41, List.length_cons, List.length_nil, Nat.reduceAdd, Nat.reduceSub, List.replicate_succ, List.replicate_zero, List.cons_append, List.nil_append])
  repeat' (first | (with_reducible first | refine Stp.up ?_ | refine fun (K : AS → Prop) hK => ?_ | refine awp_drawE (by decide +kernel) (by kernel_rfl) ?_ | refine awp_draw (by kernel_rfl) (by decide) ?_ | refine awp_boxes (by kernel_rfl) (by kernel_rfl) (by kernel_rfl) ?_ | refine adrawE_k (by decide) ?_ | refine adrawE_eff (by decide) ?_ | refine abox_plain (by decide) ?_ | refine abox_al ?_ | refine abox_st ?_ | refine adrawG_k (by decide) ?_ | refine adrawG_e (by decide) ?_) | (with_reducible refine hK _ ?_; clear hK; clear K) | simp only [go_sem, Nat.reduceAdd, Nat.reduceSub, Nat.reduceMul, Nat.reduceLeDiff, Nat.reduceEqDiff, Nat.reduceLT, Int.reduceToNat, ↓reduceIte, reduceCtorEq, Int.reduceLE, Int.reduceLT, Int.reduceNeg, Int.reduceEq, Int.reduceBEq, Int.reduceBNe] | (with_reducible refine And.intro (by omega) ?_) | (clear hK; clear K) | (with_reducible refine ACallV.one (by assumption) ?_) | (with_reducible refine ACallS.one (by assumption) ?_) | (refine AIf.part (fun hb => ?_) (fun hb => ?_) <;> simp only [hb, go_sem, Nat.reduceAdd, Nat.reduceSub, Nat.reduceMul, Nat.reduceLeDiff, Nat.reduceEqDiff, Nat.reduceLT, Int.reduceToNat, ↓reduceIte, reduceCtorEq, Int.reduceLE, Int.reduceLT, Int.reduceNeg, Int.reduceEq, Int.reduceBEq, Int.reduceBNe]) | (refine AIf.part (fun hb => ?_) (fun hb => ?_)) | (with_reducible refine ABoth.mk ?_ ?_))
  (refine AFz.of 40 rfl ?_; simp only [go_sem, Nat.reduceAdd, Nat.reduceSub, Nat.reduceMul, Nat.reduceLeDiff, Nat.reduceEqDiff, Nat.reduceLT, Int.reduceToNat, ↓reduceIte, reduceCtorEq, Int.reduceLE, Int.reduceLT, Int.reduceNeg, Int.reduceEq, Int.reduceBEq, Int.reduceBNe])
theorem okS {s : ByteArray} (h : decide (s.size ≤ 100) = true) : okT s := by unfold okT; have := of_decide_eq_true h; omega
theorem askQ_ok {nm : ByteArray} {l r o : Opd} (hn : okT nm) (hl : l.ok) (hr : r.ok) (ho : o.ok) : (askQ nm l r o).ok := by
  refine ⟨fun p hp => ?_, fun c hc => ?_, fun x hx => ?_⟩
  · simp only [askQ, List.mem_cons, List.not_mem_nil, or_false] at hp
    subst hp
    exact ⟨okS (s := ⟨#[97]⟩) (by rfl), okS (s := ⟨#[98]⟩) (by rfl), okS (s := ⟨#[120]⟩) (by rfl), hn, by rw [Ex.ok, exsOk]; exact ⟨okS (by rfl), trivial⟩⟩
  · simp only [askQ, List.mem_cons, List.not_mem_nil, or_false] at hc
    subst hc
    exact ⟨hl, hr⟩
  · simp only [askQ, List.mem_cons, List.not_mem_nil, or_false] at hx
    subst hx
    exact ho
theorem vtxO_ok {s : ByteArray} (h : okT s) : (vtxO s).ok := ⟨h, by show okT e0; unfold okT; decide, by show okT e0; unfold okT; decide⟩
theorem prpO_ok {s k : ByteArray} (h : okT s) (h' : okT k) : (prpO s k).ok := ⟨h, h', by show okT e0; unfold okT; decide⟩
theorem numO_ok (n : Int) : (numO n).ok := ⟨by show okT e0; unfold okT; decide, by show okT e0; unfold okT; decide, by show okT e0; unfold okT; decide⟩
theorem txtO_ok {s : ByteArray} (h : okT s) : (txtO s).ok := ⟨by show okT e0; unfold okT; decide, by show okT e0; unfold okT; decide, h⟩
/-- the program's answer to such a query -/
theorem askQuery_c {nm : ByteArray} {l r o : Opd} (hn : okT nm) (hl : l.ok) (hr : r.ok) (ho : o.ok) {n : Int} (h : chkQ (askQ nm l r o) = n) : Call1 Try.prog 32 [.agg (askA nm l r o)] (.v (.int .i64 n)) := by
  have := query14_c (askQ nm l r o) (askQ_ok hn hl hr ho) (by simp [askQ]) (by simp [askQ]) (by simp [askQ])
  rw [h] at this
  exact this.le (by simp only [wfL, AV.wf, askA_wf, Bool.and_self]) (.cons (askA_le nm l r o).agg .nil)

set_option maxRecDepth 100000 in
set_option maxHeartbeats 8000000 in
theorem awake14_c : Call1 Try.prog 31 [] (.v (.bool true)) := by
  have A1 := vertex14_c ⟨#[97]⟩
  have A2 := text14_c ⟨#[113]⟩
  have A3 := vertex14_c ⟨#[99]⟩
  have A4 := ask14_c ⟨#[101]⟩ (vtxO ⟨#[97]⟩) (txtO ⟨#[113]⟩) (vtxO ⟨#[99]⟩)
  have A5 := askQuery_c (nm := ⟨#[101]⟩) (l := vtxO ⟨#[97]⟩) (r := txtO ⟨#[113]⟩) (o := vtxO ⟨#[99]⟩) (okS (by rfl)) (vtxO_ok (okS (by rfl))) (txtO_ok (okS (by rfl))) (vtxO_ok (okS (by rfl))) (n := 8) (by kernel_rfl)
  have B1 := num14_c 1
  have B2 := num14_c 2
  have B4 := ask14_c ⟨#[97]⟩ (numO 1) (numO 2) (vtxO ⟨#[97]⟩)
  have B5 := askQuery_c (nm := ⟨#[97]⟩) (l := numO 1) (r := numO 2) (o := vtxO ⟨#[97]⟩) (okS (by rfl)) (numO_ok 1) (numO_ok 2) (vtxO_ok (okS (by rfl))) (n := 9) (by kernel_rfl)
  have D1 := num14_c 5
  have D4 := ask14_c ⟨#[101]⟩ (vtxO ⟨#[97]⟩) (numO 5) (vtxO ⟨#[97]⟩)
  have D5 := askQuery_c (nm := ⟨#[101]⟩) (l := vtxO ⟨#[97]⟩) (r := numO 5) (o := vtxO ⟨#[97]⟩) (okS (by rfl)) (vtxO_ok (okS (by rfl))) (numO_ok 5) (vtxO_ok (okS (by rfl))) (n := 10) (by kernel_rfl)
  have E1 := prop14_c ⟨#[101]⟩ ⟨#[107]⟩
  have E2 := prop14_c ⟨#[101]⟩ ⟨#[108]⟩
  have E4 := ask14_c ⟨#[101]⟩ (prpO ⟨#[101]⟩ ⟨#[107]⟩) (numO 5) (prpO ⟨#[101]⟩ ⟨#[108]⟩)
  have E5 := askQuery_c (nm := ⟨#[101]⟩) (l := prpO ⟨#[101]⟩ ⟨#[107]⟩) (r := numO 5) (o := prpO ⟨#[101]⟩ ⟨#[108]⟩) (okS (by rfl)) (prpO_ok (okS (by rfl)) (okS (by rfl))) (numO_ok 5) (prpO_ok (okS (by rfl)) (okS (by rfl))) (n := 0) (by kernel_rfl)
  simp only [encO, vtxO, txtO, numO, prpO, e0] at A1 A2 A3 A4 A5 B1 B2 B4 B5 D1 D4 D5 E1 E2 E4 E5
  (refine Call1.enter Try.func31 rfl (by kernel_rfl) (by kernel_rfl) rfl (by first | rfl | (simp only [go_sem, Bool.and_self, Bool.and_true, Bool.true_and])) (by first | rfl | (simp only [go_sem, Bool.and_self, Bool.and_true, Bool.true_and])) ?_; simp only [Try.ntmps31, Try.results31, List.length_cons, List.length_nil, Nat.reduceAdd, Nat.reduceSub, List.replicate_succ, List.replicate_zero, List.cons_append, List.nil_append])
  repeat' (first | (with_reducible first | refine Stp.up ?_ | refine fun (K : AS → Prop) hK => ?_ | refine awp_drawE (by decide +kernel) (by kernel_rfl) ?_ | refine awp_draw (by kernel_rfl) (by decide) ?_ | refine awp_boxes (by kernel_rfl) (by kernel_rfl) (by kernel_rfl) ?_ | refine adrawE_k (by decide) ?_ | refine adrawE_eff (by decide) ?_ | refine abox_plain (by decide) ?_ | refine abox_al ?_ | refine abox_st ?_ | refine adrawG_k (by decide) ?_ | refine adrawG_e (by decide) ?_) | (with_reducible refine hK _ ?_; clear hK; clear K) | simp only [go_sem, Nat.reduceAdd, Nat.reduceSub, Nat.reduceMul, Nat.reduceLeDiff, Nat.reduceEqDiff, Nat.reduceLT, Int.reduceToNat, ↓reduceIte, reduceCtorEq, Int.reduceLE, Int.reduceLT, Int.reduceNeg, Int.reduceEq, Int.reduceBEq, Int.reduceBNe] | (with_reducible refine And.intro (by omega) ?_) | (clear hK; clear K) | (with_reducible refine ACallV.one (by assumption) ?_) | (with_reducible refine ACallS.one (by assumption) ?_) | (refine AIf.part (fun hb => ?_) (fun hb => ?_) <;> simp only [hb, go_sem, Nat.reduceAdd, Nat.reduceSub, Nat.reduceMul, Nat.reduceLeDiff, Nat.reduceEqDiff, Nat.reduceLT, Int.reduceToNat, ↓reduceIte, reduceCtorEq, Int.reduceLE, Int.reduceLT, Int.reduceNeg, Int.reduceEq, Int.reduceBEq, Int.reduceBNe]) | (refine AIf.part (fun hb => ?_) (fun hb => ?_)) | (with_reducible refine ABoth.mk ?_ ?_))

end Go.Proofs.Yteihcfhdhkamfaa
