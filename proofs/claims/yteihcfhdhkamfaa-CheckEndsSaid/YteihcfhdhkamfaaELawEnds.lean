/- kinescopelaw14.CheckEnds: the walk. -/
import Derived.Test.YteihcfhdhkamfaaEAskF
import Derived.Test.YteihcfhdhkamfaaELaw14
import Derived.Test.YteihcfhdhkamfaaEAbsV
set_option linter.unusedSimpArgs false
set_option linter.unusedVariables false
namespace Go.Proofs.Yteihcfhdhkamfaa
open Go.RowKit

/-- a pattern without kids, as it comes -/
def rawP (p : Pat) : List AV := [.v (.string p.frm), .v (.string p.to), .v (.bool p.path), .v (.string p.label), .v (.string p.name), .v (.int .i64 p.expr.kind), .v (.string p.expr.label), .v (.slice none 0 0)]
theorem rawP_le {p : Pat} (h : p.expr.kids = []) : LeL (rawP p) (encP p) := by
  obtain ⟨a, b, c, d, e, ⟨k, s, l⟩⟩ := p
  obtain rfl : l = [] := h
  exact .cons (.refl _) (.cons (.refl _) (.cons (.refl _) (.cons (.refl _) (.cons (.refl _) (.cons (.refl _) (.cons (.refl _) (.cons (.nil 3) .nil)))))))
theorem rawPs_le {ps : List Pat} (h : ∀ p, p ∈ ps → p.expr.kids = []) : Le (.slc 8 (ps.map rawP) ps.length) (.slc 8 (ps.map encP) ps.length) := by
  have := Le.rows (z := 8) (f := rawP) (g := encP) (xs := ps) (more := []) (fun p hp => rawP_le (h p hp))
  simpa using this
/-- what reads as the one reads as the other -/
def RW (a b : AV) : Prop := ∀ (D : Nat → Prop) (nu : Nat → Nat → Value) (w : World) (x : Value), RA D nu [] w a x → RA D nu [] w b x
theorem RW.full {a b : AV} (h : RW a b) : RW (.full a) b := fun D nu w x hx => h D nu w x hx.st
theorem RW.le {a b : AV} (h : Le a b) : RW a b := fun D nu w x hx => hx.le h
/-- CheckTells says true of a query as it comes -/
theorem tellsW (q : Qry) (o : Opd) (hq : q.small) (oq : q.ok) (oo : o.ok) {p c r : AV} (wp : p.wf 0 = true) (wc : c.wf 0 = true) (wr : r.wf 0 = true)
    (hp : RW p (.slc 8 (q.pats.map encP) q.pats.length)) (hc : RW c (.slc 13 (q.conds.map encC) q.conds.length)) (hr : RW r (.slc 6 (q.ret.map encO) q.ret.length)) :
    Call1 Try.prog 5 [.agg [p, c, r, .v (.int .i64 q.range), .v (.int .i64 q.slide)], .agg (encO o)] (.v (.bool true)) :=
  (lawCheckTells_c q o hq oq oo).args (by simp only [wfL, AV.wf, wp, wc, wr, Bool.and_self, encO]) (fun D nu w vargs h => ⟨h.len, fun i a x ha hx => by
    match i, ha with
    | 1, ha => cases ha; exact h.at' 1 _ x rfl hx
    | i + 2, ha => simp at ha
    | 0, ha =>
      cases ha
      have := h.at' 0 _ x rfl hx
      cases this with
      | agg _ xs k1 k2 k3 =>
        refine .agg _ xs (by simpa [encQ] using k1) (fun j d y hd hy => ?_) k3
        match j, hd with
        | 0, hd => cases hd; exact hp _ _ _ _ (k2 0 _ y rfl hy)
        | 1, hd => cases hd; exact hc _ _ _ _ (k2 1 _ y rfl hy)
        | 2, hd => cases hd; exact hr _ _ _ _ (k2 2 _ y rfl hy)
        | 3, hd => cases hd; exact k2 3 _ y rfl hy
        | 4, hd => cases hd; exact k2 4 _ y rfl hy
        | j + 5, hd => simp [encQ] at hd⟩)

def opE : List Opd := [vtxO ⟨#[97]⟩, vtxO ⟨#[98]⟩, vtxO ⟨#[99]⟩, vtxO ⟨#[101]⟩, prpO ⟨#[101]⟩ ⟨#[107]⟩, prpO ⟨#[97]⟩ ⟨#[107]⟩, prpO ⟨#[102]⟩ ⟨#[107]⟩, numO 5, txtO ⟨#[113]⟩, ⟨9, ⟨#[97]⟩, e0, ⟨0, 0, e0⟩⟩, vtxO ⟨#[109, 97, 116, 99, 104]⟩]
def nmE : List ByteArray := [⟨#[]⟩, ⟨#[101]⟩, ⟨#[97]⟩, ⟨#[102]⟩, ⟨#[97, 115]⟩]
theorem nmE_ok : ∀ s, s ∈ nmE → okT s := by
  intro s hs
  simp only [nmE, List.mem_cons, List.not_mem_nil, or_false] at hs
  rcases hs with rfl | rfl | rfl | rfl | rfl <;> exact okS (by rfl)
theorem opE_ok : ∀ x, x ∈ opE → x.ok := by
  intro s hs
  simp only [opE, List.mem_cons, List.not_mem_nil, or_false] at hs
  rcases hs with rfl | rfl | rfl | rfl | rfl | rfl | rfl | rfl | rfl | rfl | rfl
  · exact vtxO_ok (okS (by rfl))
  · exact vtxO_ok (okS (by rfl))
  · exact vtxO_ok (okS (by rfl))
  · exact vtxO_ok (okS (by rfl))
  · exact prpO_ok (okS (by rfl)) (okS (by rfl))
  · exact prpO_ok (okS (by rfl)) (okS (by rfl))
  · exact prpO_ok (okS (by rfl)) (okS (by rfl))
  · exact numO_ok 5
  · exact txtO_ok (okS (by rfl))
  · exact ⟨okS (by rfl), okS (by rfl), okS (by rfl)⟩
  · exact vtxO_ok (okS (by rfl))

theorem opE_at {k : Nat} (h : k < 11) : ∃ x : Opd, x.ok ∧ (opE.map encO).getD k [] = encO x := ⟨opE[k], opE_ok _ (List.getElem_mem _), getD_map encO opE k [] h⟩
theorem nmE_at {k : Nat} (h : k < 5) : ∃ x : ByteArray, okT x ∧ (nmE.map encS).getD k [] = encS x := ⟨nmE[k], nmE_ok _ (List.getElem_mem _), getD_map encS nmE k [] h⟩
theorem wrap_nat {k : Nat} (h : k < 1000000) : IntKind.i64.wrap (k : Int) = (k : Int) := by
  cases k with
  | zero => rfl
  | succ k => exact wrap_succ (k := k) (by omega)
/-- the three queries of a round -/
def q1E (nm : ByteArray) (l r o : Opd) : Qry := askQ nm l r o
def q2E (nm t2 n2 : ByteArray) (l r o c2l c2r : Opd) : Qry := ⟨[⟨⟨#[97]⟩, ⟨#[98]⟩, false, ⟨#[120]⟩, nm, .mk 0 e0 []⟩, ⟨⟨#[99]⟩, t2, false, ⟨#[121]⟩, n2, .mk 0 e0 []⟩], [⟨3, l, r⟩, ⟨1, c2l, c2r⟩], [o], 5, 1⟩
theorem q1_c {nm : ByteArray} {l r o x : Opd} (hn : okT nm) (hl : l.ok) (hr : r.ok) (ho : o.ok) (hx : x.ok) : Call1 Try.prog 5 [.agg (askF nm l r o), .agg (encO x)] (.v (.bool true)) := by
  refine tellsW (askQ nm l r o) x ⟨by simp [askQ], by simp [askQ], by simp [askQ]⟩ (askQ_ok hn hl hr ho) hx rfl rfl rfl (.full ?_) (.full ?_) (.full ?_)
  · exact .le (rawPs_le (ps := (askQ nm l r o).pats) (fun p hp => by simp only [askQ, List.mem_cons, List.not_mem_nil, or_false] at hp; subst hp; rfl))
  · exact .le (.refl _)
  · exact .le (.refl _)
theorem q2_ok {nm t2 n2 : ByteArray} {l r o c2l c2r : Opd} (hn : okT nm) (ht : okT t2) (hm : okT n2) (hl : l.ok) (hr : r.ok) (ho : o.ok) (h1 : c2l.ok) (h2 : c2r.ok) : (q2E nm t2 n2 l r o c2l c2r).ok := by
  have he : Ex.ok (.mk 0 e0 []) := by rw [Ex.ok, exsOk]; exact ⟨okS (by rfl), trivial⟩
  refine ⟨fun p hp => ?_, fun c hc => ?_, fun x hx => ?_⟩
  · simp only [q2E, List.mem_cons, List.not_mem_nil, or_false] at hp
    rcases hp with rfl | rfl
    · exact ⟨okS (s := ⟨#[97]⟩) (by rfl), okS (s := ⟨#[98]⟩) (by rfl), okS (s := ⟨#[120]⟩) (by rfl), hn, he⟩
    · exact ⟨okS (s := ⟨#[99]⟩) (by rfl), ht, okS (s := ⟨#[121]⟩) (by rfl), hm, he⟩
  · simp only [q2E, List.mem_cons, List.not_mem_nil, or_false] at hc
    rcases hc with rfl | rfl
    · exact ⟨hl, hr⟩
    · exact ⟨h1, h2⟩
  · simp only [q2E, List.mem_cons, List.not_mem_nil, or_false] at hx
    subst hx
    exact ho
/-- as it lies then: two own rows, the third as it came (room or no room known) -/
def q2A (nm t2 n2 : ByteArray) (l r c2l c2r : Opd) (t : AV) : List AV := [.slc 8 [rawP ⟨⟨#[97]⟩, ⟨#[98]⟩, false, ⟨#[120]⟩, nm, .mk 0 e0 []⟩, rawP ⟨⟨#[99]⟩, t2, false, ⟨#[121]⟩, n2, .mk 0 e0 []⟩] 2, .slc 13 [encC ⟨3, l, r⟩, encC ⟨1, c2l, c2r⟩] 2, t, .v (.int .i64 5), .v (.int .i64 1)]
theorem q2_c {nm t2 n2 : ByteArray} {l r o c2l c2r x : Opd} {t : AV} (hn : okT nm) (ht : okT t2) (hm : okT n2) (hl : l.ok) (hr : r.ok) (ho : o.ok) (h1 : c2l.ok) (h2 : c2r.ok) (hx : x.ok) (wt : t.wf 0 = true) (hw : RW t (.slc 6 [encO o] 1)) :
    Call1 Try.prog 5 [.agg (q2A nm t2 n2 l r c2l c2r t), .agg (encO x)] (.v (.bool true)) := by
  refine tellsW (q2E nm t2 n2 l r o c2l c2r) x ⟨by simp [q2E], by simp [q2E], by simp [q2E]⟩ (q2_ok hn ht hm hl hr ho h1 h2) hx rfl rfl wt ?_ ?_ hw
  · exact .le (rawPs_le (ps := (q2E nm t2 n2 l r o c2l c2r).pats) (fun p hp => by simp only [q2E, List.mem_cons, List.not_mem_nil, or_false] at hp; rcases hp with rfl | rfl <;> rfl))
  · exact .le (.refl _)

set_option maxRecDepth 100000 in
set_option maxHeartbeats 8000000 in
theorem lawCheckEnds_c : Call1 Try.prog 6 [] (.v (.bool true)) := by
  have W := awake14_c
  have V1 := vertex14_c ⟨#[97]⟩
  have V2 := vertex14_c ⟨#[98]⟩
  have V3 := vertex14_c ⟨#[99]⟩
  have V4 := vertex14_c ⟨#[101]⟩
  have V5 := prop14_c ⟨#[101]⟩ ⟨#[107]⟩
  have V6 := prop14_c ⟨#[97]⟩ ⟨#[107]⟩
  have V7 := prop14_c ⟨#[102]⟩ ⟨#[107]⟩
  have V8 := num14_c 5
  have V9 := text14_c ⟨#[113]⟩
  have V10 := vertex14_c ⟨#[109, 97, 116, 99, 104]⟩
  have V11 := vertex14_c ⟨#[102]⟩
  simp only [encO, vtxO, prpO, numO, txtO, e0] at V1 V2 V3 V4 V5 V6 V7 V8 V9 V10 V11
  (refine Call1.enter Try.func6 rfl (by kernel_rfl) (by kernel_rfl) rfl (by first | rfl | (simp only [go_sem, Bool.and_self, Bool.and_true, Bool.true_and])) (by first | rfl | (simp only [go_sem, Bool.and_self, Bool.and_true, Bool.true_and])) ?_; simp only [Try.ntmps6, Try.results6, List.length_cons, List.length_nil, Nat.reduceAdd, Nat.reduceSub, List.replicate_succ, List.replicate_zero, List.cons_append, List.nil_append])
  repeat' (first | (with_reducible first | refine Stp.up ?_ | refine fun (K : AS → Prop) hK => ?_ | refine awp_drawE (by decide +kernel) (by kernel_rfl) ?_ | refine awp_draw (by kernel_rfl) (by decide) ?_ | refine awp_boxes (by kernel_rfl) (by kernel_rfl) (by kernel_rfl) ?_ | refine adrawE_k (by decide) ?_ | refine adrawE_eff (by decide) ?_ | refine abox_plain (by decide) ?_ | refine abox_al ?_ | refine abox_st ?_ | refine adrawG_k (by decide) ?_ | refine adrawG_e (by decide) ?_) | (with_reducible refine hK _ ?_; clear hK; clear K) | simp only [go_sem, Nat.reduceAdd, Nat.reduceSub, Nat.reduceMul, Nat.reduceLeDiff, Nat.reduceEqDiff, Nat.reduceLT, Int.reduceToNat, ↓reduceIte, reduceCtorEq, Int.reduceLE, Int.reduceLT, Int.reduceNeg, Int.reduceEq, Int.reduceBEq, Int.reduceBNe] | (with_reducible refine And.intro (by omega) ?_) | (clear hK; clear K) | (with_reducible refine ACallV.one (by assumption) ?_) | (with_reducible refine ACallS.one (by assumption) ?_) | (refine AIf.part (fun hb => ?_) (fun hb => ?_) <;> simp only [hb, go_sem, Nat.reduceAdd, Nat.reduceSub, Nat.reduceMul, Nat.reduceLeDiff, Nat.reduceEqDiff, Nat.reduceLT, Int.reduceToNat, ↓reduceIte, reduceCtorEq, Int.reduceLE, Int.reduceLT, Int.reduceNeg, Int.reduceEq, Int.reduceBEq, Int.reduceBNe]) | (refine AIf.part (fun hb => ?_) (fun hb => ?_)) | (with_reducible refine ABoth.mk ?_ ?_))
  refine awp_loopO (ι := Nat) 20 (fun n => [(3, .v (.int .i64 n)), (4, .undef), (5, .undef), (6, .undef)]) (fun _ => [some ⟨32, 6, true, opE.map encO⟩, some ⟨9, 1, true, nmE.map encS⟩]) (fun n => 5 - n) (fun n => n ≤ 5) 0 (by omega) ?_ ?_
  · (refine wk_mk ?_ ?_ ?_ <;> simp only [frm, List.foldl_cons, List.foldl_nil, List.replicate_succ, List.replicate_zero, WkT, WkO, AV.v.injEq, Value.int.injEq, Value.bool.injEq, Value.string.injEq, AV.vec.injEq, AV.ptr.injEq, true_or, or_true, false_or, or_false, AObj.mk.injEq, forall_eq_apply_imp_iff, forall_eq, forall_eq', go_sem, Nat.reduceAdd, Nat.reduceSub, Nat.reduceMul, Nat.reduceLeDiff, Nat.reduceEqDiff, Nat.reduceLT, Int.reduceToNat, ↓reduceIte, reduceCtorEq, Int.reduceLE, Int.reduceLT, Int.reduceNeg, Int.reduceEq, Int.reduceBEq, Int.reduceBNe])
    all_goals first | exact ⟨rfl, rfl⟩ | rfl
  have eL1 : opE.length = 11 := rfl
  have eL2 : nmE.length = 5 := rfl
  intro n hn K hK
  repeat (first | (with_reducible first | refine Stp.up ?_ | refine fun (K : AS → Prop) hK => ?_ | refine awp_drawE (by decide +kernel) (by kernel_rfl) ?_ | refine awp_draw (by kernel_rfl) (by decide) ?_ | refine awp_boxes (by kernel_rfl) (by kernel_rfl) (by kernel_rfl) ?_ | refine adrawE_k (by decide) ?_ | refine adrawE_eff (by decide) ?_ | refine abox_plain (by decide) ?_ | refine abox_al ?_ | refine abox_st ?_ | refine adrawG_k (by decide) ?_ | refine adrawG_e (by decide) ?_) | (with_reducible refine hK _ ?_; clear hK; clear K) | simp only [go_sem, Nat.reduceAdd, Nat.reduceSub, Nat.reduceMul, Nat.reduceLeDiff, Nat.reduceEqDiff, Nat.reduceLT, Int.reduceToNat, ↓reduceIte, reduceCtorEq, Int.reduceLE, Int.reduceLT, Int.reduceNeg, Int.reduceEq, Int.reduceBEq, Int.reduceBNe, eL1, eL2] | (with_reducible refine And.intro (by omega) ?_) | (clear hK; clear K))
  refine AIf.part (fun h1 => ?_) (fun h1 => ?_)
  rotate_left
  · repeat' (first | (with_reducible first | refine Stp.up ?_ | refine fun (K : AS → Prop) hK => ?_ | refine awp_drawE (by decide +kernel) (by kernel_rfl) ?_ | refine awp_draw (by kernel_rfl) (by decide) ?_ | refine awp_boxes (by kernel_rfl) (by kernel_rfl) (by kernel_rfl) ?_ | refine adrawE_k (by decide) ?_ | refine adrawE_eff (by decide) ?_ | refine abox_plain (by decide) ?_ | refine abox_al ?_ | refine abox_st ?_ | refine adrawG_k (by decide) ?_ | refine adrawG_e (by decide) ?_) | (with_reducible refine hK _ ?_; clear hK; clear K) | simp only [go_sem, Nat.reduceAdd, Nat.reduceSub, Nat.reduceMul, Nat.reduceLeDiff, Nat.reduceEqDiff, Nat.reduceLT, Int.reduceToNat, ↓reduceIte, reduceCtorEq, Int.reduceLE, Int.reduceLT, Int.reduceNeg, Int.reduceEq, Int.reduceBEq, Int.reduceBNe, eL1, eL2, h1, Go.undef] | (with_reducible refine And.intro (by omega) ?_) | (clear hK; clear K) | (with_reducible refine ACallV.one (by assumption) ?_) | (with_reducible refine ACallS.one (by assumption) ?_) | (refine AIf.part (fun hb => ?_) (fun hb => ?_) <;> simp only [hb, go_sem, Nat.reduceAdd, Nat.reduceSub, Nat.reduceMul, Nat.reduceLeDiff, Nat.reduceEqDiff, Nat.reduceLT, Int.reduceToNat, ↓reduceIte, reduceCtorEq, Int.reduceLE, Int.reduceLT, Int.reduceNeg, Int.reduceEq, Int.reduceBEq, Int.reduceBNe, eL1, eL2, h1, Go.undef]) | (refine AIf.part (fun hb => ?_) (fun hb => ?_)) | (with_reducible refine ABoth.mk ?_ ?_))
  have hn5 : n < 5 := by (try simp only [bne_iff_ne, ne_eq, bne_eq_false_iff_eq, beq_iff_eq, beq_eq_false_iff_ne, decide_eq_true_eq, decide_eq_false_iff_not, Bool.not_eq_true', Bool.not_eq_false', Bool.not_eq_eq_eq_not, Bool.not_true, Bool.not_false, Int.natCast_inj, Int.ofNat_lt, Int.ofNat_le] at h1); omega
  have eWn := wrap_succ (k := n) (by omega)
  repeat (first | (with_reducible first | refine Stp.up ?_ | refine fun (K : AS → Prop) hK => ?_ | refine awp_drawE (by decide +kernel) (by kernel_rfl) ?_ | refine awp_draw (by kernel_rfl) (by decide) ?_ | refine awp_boxes (by kernel_rfl) (by kernel_rfl) (by kernel_rfl) ?_ | refine adrawE_k (by decide) ?_ | refine adrawE_eff (by decide) ?_ | refine abox_plain (by decide) ?_ | refine abox_al ?_ | refine abox_st ?_ | refine adrawG_k (by decide) ?_ | refine adrawG_e (by decide) ?_) | (with_reducible refine hK _ ?_; clear hK; clear K) | simp only [go_sem, Nat.reduceAdd, Nat.reduceSub, Nat.reduceMul, Nat.reduceLeDiff, Nat.reduceEqDiff, Nat.reduceLT, Int.reduceToNat, ↓reduceIte, reduceCtorEq, Int.reduceLE, Int.reduceLT, Int.reduceNeg, Int.reduceEq, Int.reduceBEq, Int.reduceBNe, eL1, eL2, h1] | (with_reducible refine And.intro (by omega) ?_) | (clear hK; clear K))
  refine awp_loopO (ι := Nat) 26 (fun i => [(4, .v (.int .i64 i)), (5, .undef), (6, .undef)]) (fun _ => [some ⟨32, 6, true, opE.map encO⟩, some ⟨9, 1, true, nmE.map encS⟩]) (fun i => 11 - i) (fun i => i ≤ 11) 0 (by omega) ?_ ?_
  · (refine wk_mk ?_ ?_ ?_ <;> simp only [frm, List.foldl_cons, List.foldl_nil, List.replicate_succ, List.replicate_zero, WkT, WkO, AV.v.injEq, Value.int.injEq, Value.bool.injEq, Value.string.injEq, AV.vec.injEq, AV.ptr.injEq, true_or, or_true, false_or, or_false, AObj.mk.injEq, forall_eq_apply_imp_iff, forall_eq, forall_eq', go_sem, Nat.reduceAdd, Nat.reduceSub, Nat.reduceMul, Nat.reduceLeDiff, Nat.reduceEqDiff, Nat.reduceLT, Int.reduceToNat, ↓reduceIte, reduceCtorEq, Int.reduceLE, Int.reduceLT, Int.reduceNeg, Int.reduceEq, Int.reduceBEq, Int.reduceBNe])
    all_goals rfl
  intro i hi K hK
  repeat (first | (with_reducible first | refine Stp.up ?_ | refine fun (K : AS → Prop) hK => ?_ | refine awp_drawE (by decide +kernel) (by kernel_rfl) ?_ | refine awp_draw (by kernel_rfl) (by decide) ?_ | refine awp_boxes (by kernel_rfl) (by kernel_rfl) (by kernel_rfl) ?_ | refine adrawE_k (by decide) ?_ | refine adrawE_eff (by decide) ?_ | refine abox_plain (by decide) ?_ | refine abox_al ?_ | refine abox_st ?_ | refine adrawG_k (by decide) ?_ | refine adrawG_e (by decide) ?_) | (with_reducible refine hK _ ?_; clear hK; clear K) | simp only [go_sem, Nat.reduceAdd, Nat.reduceSub, Nat.reduceMul, Nat.reduceLeDiff, Nat.reduceEqDiff, Nat.reduceLT, Int.reduceToNat, ↓reduceIte, reduceCtorEq, Int.reduceLE, Int.reduceLT, Int.reduceNeg, Int.reduceEq, Int.reduceBEq, Int.reduceBNe, eL1, eL2] | (with_reducible refine And.intro (by omega) ?_) | (clear hK; clear K))
  refine AIf.part (fun h2 => ?_) (fun h2 => ?_)
  rotate_left
  · repeat' (first | (with_reducible first | refine Stp.up ?_ | refine fun (K : AS → Prop) hK => ?_ | refine awp_drawE (by decide +kernel) (by kernel_rfl) ?_ | refine awp_draw (by kernel_rfl) (by decide) ?_ | refine awp_boxes (by kernel_rfl) (by kernel_rfl) (by kernel_rfl) ?_ | refine adrawE_k (by decide) ?_ | refine adrawE_eff (by decide) ?_ | refine abox_plain (by decide) ?_ | refine abox_al ?_ | refine abox_st ?_ | refine adrawG_k (by decide) ?_ | refine adrawG_e (by decide) ?_) | (with_reducible refine hK _ ?_; clear hK; clear K) | simp only [go_sem, Nat.reduceAdd, Nat.reduceSub, Nat.reduceMul, Nat.reduceLeDiff, Nat.reduceEqDiff, Nat.reduceLT, Int.reduceToNat, ↓reduceIte, reduceCtorEq, Int.reduceLE, Int.reduceLT, Int.reduceNeg, Int.reduceEq, Int.reduceBEq, Int.reduceBNe, eL1, eL2, h2, Go.undef, eWn] | (with_reducible refine And.intro (by omega) ?_) | (clear hK; clear K) | (with_reducible refine ACallV.one (by assumption) ?_) | (with_reducible refine ACallS.one (by assumption) ?_) | (refine AIf.part (fun hb => ?_) (fun hb => ?_) <;> simp only [hb, go_sem, Nat.reduceAdd, Nat.reduceSub, Nat.reduceMul, Nat.reduceLeDiff, Nat.reduceEqDiff, Nat.reduceLT, Int.reduceToNat, ↓reduceIte, reduceCtorEq, Int.reduceLE, Int.reduceLT, Int.reduceNeg, Int.reduceEq, Int.reduceBEq, Int.reduceBNe, eL1, eL2, h2, Go.undef, eWn]) | (refine AIf.part (fun hb => ?_) (fun hb => ?_)) | (with_reducible refine ABoth.mk ?_ ?_))
    exact LNext.mk (n + 1) (by omega) (by omega) (by (refine wk_mk ?_ ?_ ?_ <;> simp only [frm, List.foldl_cons, List.foldl_nil, List.replicate_succ, List.replicate_zero, WkT, WkO, AV.v.injEq, Value.int.injEq, Value.bool.injEq, Value.string.injEq, AV.vec.injEq, AV.ptr.injEq, true_or, or_true, false_or, or_false, AObj.mk.injEq, forall_eq_apply_imp_iff, forall_eq, forall_eq', go_sem, Nat.reduceAdd, Nat.reduceSub, Nat.reduceMul, Nat.reduceLeDiff, Nat.reduceEqDiff, Nat.reduceLT, Int.reduceToNat, ↓reduceIte, reduceCtorEq, Int.reduceLE, Int.reduceLT, Int.reduceNeg, Int.reduceEq, Int.reduceBEq, Int.reduceBNe]))
  have hi11 : i < 11 := by (try simp only [bne_iff_ne, ne_eq, bne_eq_false_iff_eq, beq_iff_eq, beq_eq_false_iff_ne, decide_eq_true_eq, decide_eq_false_iff_not, Bool.not_eq_true', Bool.not_eq_false', Bool.not_eq_eq_eq_not, Bool.not_true, Bool.not_false, Int.natCast_inj, Int.ofNat_lt, Int.ofNat_le] at h2); omega
  have eWi := wrap_succ (k := i) (by omega)
  repeat (first | (with_reducible first | refine Stp.up ?_ | refine fun (K : AS → Prop) hK => ?_ | refine awp_drawE (by decide +kernel) (by kernel_rfl) ?_ | refine awp_draw (by kernel_rfl) (by decide) ?_ | refine awp_boxes (by kernel_rfl) (by kernel_rfl) (by kernel_rfl) ?_ | refine adrawE_k (by decide) ?_ | refine adrawE_eff (by decide) ?_ | refine abox_plain (by decide) ?_ | refine abox_al ?_ | refine abox_st ?_ | refine adrawG_k (by decide) ?_ | refine adrawG_e (by decide) ?_) | (with_reducible refine hK _ ?_; clear hK; clear K) | simp only [go_sem, Nat.reduceAdd, Nat.reduceSub, Nat.reduceMul, Nat.reduceLeDiff, Nat.reduceEqDiff, Nat.reduceLT, Int.reduceToNat, ↓reduceIte, reduceCtorEq, Int.reduceLE, Int.reduceLT, Int.reduceNeg, Int.reduceEq, Int.reduceBEq, Int.reduceBNe, eL1, eL2, h2] | (with_reducible refine And.intro (by omega) ?_) | (clear hK; clear K))
  refine awp_loopO (ι := Nat) 32 (fun k => [(5, .v (.int .i64 k)), (6, .undef)]) (fun _ => [some ⟨32, 6, true, opE.map encO⟩, some ⟨9, 1, true, nmE.map encS⟩]) (fun k => 11 - k) (fun k => k ≤ 11) 0 (by omega) ?_ ?_
  · (refine wk_mk ?_ ?_ ?_ <;> simp only [frm, List.foldl_cons, List.foldl_nil, List.replicate_succ, List.replicate_zero, WkT, WkO, AV.v.injEq, Value.int.injEq, Value.bool.injEq, Value.string.injEq, AV.vec.injEq, AV.ptr.injEq, true_or, or_true, false_or, or_false, AObj.mk.injEq, forall_eq_apply_imp_iff, forall_eq, forall_eq', go_sem, Nat.reduceAdd, Nat.reduceSub, Nat.reduceMul, Nat.reduceLeDiff, Nat.reduceEqDiff, Nat.reduceLT, Int.reduceToNat, ↓reduceIte, reduceCtorEq, Int.reduceLE, Int.reduceLT, Int.reduceNeg, Int.reduceEq, Int.reduceBEq, Int.reduceBNe])
    all_goals rfl
  intro k hk K hK
  repeat (first | (with_reducible first | refine Stp.up ?_ | refine fun (K : AS → Prop) hK => ?_ | refine awp_drawE (by decide +kernel) (by kernel_rfl) ?_ | refine awp_draw (by kernel_rfl) (by decide) ?_ | refine awp_boxes (by kernel_rfl) (by kernel_rfl) (by kernel_rfl) ?_ | refine adrawE_k (by decide) ?_ | refine adrawE_eff (by decide) ?_ | refine abox_plain (by decide) ?_ | refine abox_al ?_ | refine abox_st ?_ | refine adrawG_k (by decide) ?_ | refine adrawG_e (by decide) ?_) | (with_reducible refine hK _ ?_; clear hK; clear K) | simp only [go_sem, Nat.reduceAdd, Nat.reduceSub, Nat.reduceMul, Nat.reduceLeDiff, Nat.reduceEqDiff, Nat.reduceLT, Int.reduceToNat, ↓reduceIte, reduceCtorEq, Int.reduceLE, Int.reduceLT, Int.reduceNeg, Int.reduceEq, Int.reduceBEq, Int.reduceBNe, eL1, eL2] | (with_reducible refine And.intro (by omega) ?_) | (clear hK; clear K))
  refine AIf.part (fun h3 => ?_) (fun h3 => ?_)
  rotate_left
  · repeat' (first | (with_reducible first | refine Stp.up ?_ | refine fun (K : AS → Prop) hK => ?_ | refine awp_drawE (by decide +kernel) (by kernel_rfl) ?_ | refine awp_draw (by kernel_rfl) (by decide) ?_ | refine awp_boxes (by kernel_rfl) (by kernel_rfl) (by kernel_rfl) ?_ | refine adrawE_k (by decide) ?_ | refine adrawE_eff (by decide) ?_ | refine abox_plain (by decide) ?_ | refine abox_al ?_ | refine abox_st ?_ | refine adrawG_k (by decide) ?_ | refine adrawG_e (by decide) ?_) | (with_reducible refine hK _ ?_; clear hK; clear K) | simp only [go_sem, Nat.reduceAdd, Nat.reduceSub, Nat.reduceMul, Nat.reduceLeDiff, Nat.reduceEqDiff, Nat.reduceLT, Int.reduceToNat, ↓reduceIte, reduceCtorEq, Int.reduceLE, Int.reduceLT, Int.reduceNeg, Int.reduceEq, Int.reduceBEq, Int.reduceBNe, eL1, eL2, h3, Go.undef, eWi] | (with_reducible refine And.intro (by omega) ?_) | (clear hK; clear K) | (with_reducible refine ACallV.one (by assumption) ?_) | (with_reducible refine ACallS.one (by assumption) ?_) | (refine AIf.part (fun hb => ?_) (fun hb => ?_) <;> simp only [hb, go_sem, Nat.reduceAdd, Nat.reduceSub, Nat.reduceMul, Nat.reduceLeDiff, Nat.reduceEqDiff, Nat.reduceLT, Int.reduceToNat, ↓reduceIte, reduceCtorEq, Int.reduceLE, Int.reduceLT, Int.reduceNeg, Int.reduceEq, Int.reduceBEq, Int.reduceBNe, eL1, eL2, h3, Go.undef, eWi]) | (refine AIf.part (fun hb => ?_) (fun hb => ?_)) | (with_reducible refine ABoth.mk ?_ ?_))
    exact LNext.mk (i + 1) (by omega) (by omega) (by (refine wk_mk ?_ ?_ ?_ <;> simp only [frm, List.foldl_cons, List.foldl_nil, List.replicate_succ, List.replicate_zero, WkT, WkO, AV.v.injEq, Value.int.injEq, Value.bool.injEq, Value.string.injEq, AV.vec.injEq, AV.ptr.injEq, true_or, or_true, false_or, or_false, AObj.mk.injEq, forall_eq_apply_imp_iff, forall_eq, forall_eq', go_sem, Nat.reduceAdd, Nat.reduceSub, Nat.reduceMul, Nat.reduceLeDiff, Nat.reduceEqDiff, Nat.reduceLT, Int.reduceToNat, ↓reduceIte, reduceCtorEq, Int.reduceLE, Int.reduceLT, Int.reduceNeg, Int.reduceEq, Int.reduceBEq, Int.reduceBNe]))
  have hk11 : k < 11 := by (try simp only [bne_iff_ne, ne_eq, bne_eq_false_iff_eq, beq_iff_eq, beq_eq_false_iff_ne, decide_eq_true_eq, decide_eq_false_iff_not, Bool.not_eq_true', Bool.not_eq_false', Bool.not_eq_eq_eq_not, Bool.not_true, Bool.not_false, Int.natCast_inj, Int.ofNat_lt, Int.ofNat_le] at h3); omega
  have eWk := wrap_succ (k := k) (by omega)
  repeat (first | (with_reducible first | refine Stp.up ?_ | refine fun (K : AS → Prop) hK => ?_ | refine adrawE_k (by decide) ?_ | refine adrawE_eff (by decide) ?_ | refine abox_plain (by decide) ?_ | refine abox_al ?_ | refine abox_st ?_ | refine adrawG_k (by decide) ?_ | refine adrawG_e (by decide) ?_) | (with_reducible refine hK _ ?_; clear hK; clear K) | simp only [go_sem, Nat.reduceAdd, Nat.reduceSub, Nat.reduceMul, Nat.reduceLeDiff, Nat.reduceEqDiff, Nat.reduceLT, Int.reduceToNat, ↓reduceIte, reduceCtorEq, Int.reduceLE, Int.reduceLT, Int.reduceNeg, Int.reduceEq, Int.reduceBEq, Int.reduceBNe, eL1, eL2, h3] | (with_reducible refine And.intro (by omega) ?_) | (clear hK; clear K))
  have hz11 : (i * 3 + k) % 11 < 11 := Nat.mod_lt _ (by omega)
  obtain ⟨x, ox, gx⟩ := opE_at (k := i) hi11
  obtain ⟨y, oy, gy⟩ := opE_at (k := k) hk11
  obtain ⟨z, oz, gz⟩ := opE_at (k := (i * 3 + k) % 11) hz11
  obtain ⟨nm, on, gn⟩ := nmE_at (k := n) hn5
  have eM : IntKind.i64.wrap ((i : Int) * 3) = ((i * 3 : Nat) : Int) := by rw [show (i : Int) * 3 = ((i * 3 : Nat) : Int) by omega]; exact wrap_nat (by omega)
  have eA : IntKind.i64.wrap (((i * 3 : Nat) : Int) + (k : Int)) = ((i * 3 + k : Nat) : Int) := by rw [show ((i * 3 : Nat) : Int) + (k : Int) = ((i * 3 + k : Nat) : Int) by omega]; exact wrap_nat (by omega)
  have eR : Int.tmod ((i * 3 + k : Nat) : Int) ((11 : Nat) : Int) = (((i * 3 + k) % 11 : Nat) : Int) := by rfl
  have C0 := ask14f_c nm x y z
  have C1 := q1_c on ox oy oz ox
  simp only [askF, encC, e0] at C0 C1
  simp only [encO, encS] at gx gy gz gn C0 C1
  refine awp_boxes (by kernel_rfl) (by kernel_rfl) (by kernel_rfl) ?_
  repeat (first | (with_reducible first | refine Stp.up ?_ | refine fun (K : AS → Prop) hK => ?_ | refine awp_drawE (by decide +kernel) (by kernel_rfl) ?_ | refine awp_draw (by kernel_rfl) (by decide) ?_ | refine awp_boxes (by kernel_rfl) (by kernel_rfl) (by kernel_rfl) ?_ | refine adrawE_k (by decide) ?_ | refine adrawE_eff (by decide) ?_ | refine abox_plain (by decide) ?_ | refine abox_al ?_ | refine abox_st ?_ | refine adrawG_k (by decide) ?_ | refine adrawG_e (by decide) ?_) | (with_reducible refine hK _ ?_; clear hK; clear K) | simp only [go_sem, Nat.reduceAdd, Nat.reduceSub, Nat.reduceMul, Nat.reduceLeDiff, Nat.reduceEqDiff, Nat.reduceLT, Int.reduceToNat, ↓reduceIte, reduceCtorEq, Int.reduceLE, Int.reduceLT, Int.reduceNeg, Int.reduceEq, Int.reduceBEq, Int.reduceBNe, eL1, eL2, gx, gy, gz, gn, eM, eA, eR] | (with_reducible refine And.intro (by omega) ?_) | (clear hK; clear K))
  refine ACallS.one C0 ?_
  repeat (first | (with_reducible first | refine Stp.up ?_ | refine fun (K : AS → Prop) hK => ?_ | refine adrawE_k (by decide) ?_ | refine adrawE_eff (by decide) ?_ | refine abox_plain (by decide) ?_ | refine abox_al ?_ | refine abox_st ?_ | refine adrawG_k (by decide) ?_ | refine adrawG_e (by decide) ?_) | (with_reducible refine hK _ ?_; clear hK; clear K) | simp only [go_sem, Nat.reduceAdd, Nat.reduceSub, Nat.reduceMul, Nat.reduceLeDiff, Nat.reduceEqDiff, Nat.reduceLT, Int.reduceToNat, ↓reduceIte, reduceCtorEq, Int.reduceLE, Int.reduceLT, Int.reduceNeg, Int.reduceEq, Int.reduceBEq, Int.reduceBNe, eL1, eL2, gx, gy, gz, gn, eM, eA, eR] | (with_reducible refine And.intro (by omega) ?_) | (clear hK; clear K))
  refine awp_drawG [5] (by decide +kernel) (by kernel_rfl) ?_
  repeat (first | (with_reducible first | refine Stp.up ?_ | refine fun (K : AS → Prop) hK => ?_ | refine adrawE_k (by decide) ?_ | refine adrawE_eff (by decide) ?_ | refine abox_plain (by decide) ?_ | refine abox_al ?_ | refine abox_st ?_ | refine adrawG_k (by decide) ?_ | refine adrawG_e (by decide) ?_) | (with_reducible refine hK _ ?_; clear hK; clear K) | simp only [go_sem, Nat.reduceAdd, Nat.reduceSub, Nat.reduceMul, Nat.reduceLeDiff, Nat.reduceEqDiff, Nat.reduceLT, Int.reduceToNat, ↓reduceIte, reduceCtorEq, Int.reduceLE, Int.reduceLT, Int.reduceNeg, Int.reduceEq, Int.reduceBEq, Int.reduceBNe, eL1, eL2, gx, gy, gz, gn, eM, eA, eR] | (with_reducible refine And.intro (by omega) ?_) | (clear hK; clear K))
  refine ACallE.out (CallE.frz C1 40 rfl (by simp only [go_sem]) rfl) ?_
  repeat (first | (with_reducible first | refine Stp.up ?_ | refine fun (K : AS → Prop) hK => ?_ | refine adrawE_k (by decide) ?_ | refine adrawE_eff (by decide) ?_ | refine abox_plain (by decide) ?_ | refine abox_al ?_ | refine abox_st ?_ | refine adrawG_k (by decide) ?_ | refine adrawG_e (by decide) ?_) | (with_reducible refine hK _ ?_; clear hK; clear K) | simp only [go_sem, Nat.reduceAdd, Nat.reduceSub, Nat.reduceMul, Nat.reduceLeDiff, Nat.reduceEqDiff, Nat.reduceLT, Int.reduceToNat, ↓reduceIte, reduceCtorEq, Int.reduceLE, Int.reduceLT, Int.reduceNeg, Int.reduceEq, Int.reduceBEq, Int.reduceBNe, eL1, eL2, gx, gy, gz, gn, eM, eA, eR] | (with_reducible refine And.intro (by omega) ?_) | (clear hK; clear K))
  clear eM eA eR C0 C1
  obtain ⟨u, ou, gu⟩ := opE_at (k := (k + n) % 11) (Nat.mod_lt _ (by omega))
  obtain ⟨t2, ot, gt⟩ := nmE_at (k := (n + i) % 5) (Nat.mod_lt _ (by omega))
  obtain ⟨n2, om, gm⟩ := nmE_at (k := (n + k) % 5) (Nat.mod_lt _ (by omega))
  have hu11 : (k + n) % 11 < 11 := Nat.mod_lt _ (by omega)
  have ht5 : (n + i) % 5 < 5 := Nat.mod_lt _ (by omega)
  have hm5 : (n + k) % 5 < 5 := Nat.mod_lt _ (by omega)
  have eA : IntKind.i64.wrap ((k : Int) + (n : Int)) = ((k + n : Nat) : Int) := by rw [show (k : Int) + (n : Int) = ((k + n : Nat) : Int) by omega]; exact wrap_nat (by omega)
  have eR : Int.tmod ((k + n : Nat) : Int) ((11 : Nat) : Int) = (((k + n) % 11 : Nat) : Int) := by rfl
  have eA2 : IntKind.i64.wrap ((n : Int) + (i : Int)) = ((n + i : Nat) : Int) := by rw [show (n : Int) + (i : Int) = ((n + i : Nat) : Int) by omega]; exact wrap_nat (by omega)
  have eR2 : Int.tmod ((n + i : Nat) : Int) 5 = (((n + i) % 5 : Nat) : Int) := by rfl
  have eA3 : IntKind.i64.wrap ((n : Int) + (k : Int)) = ((n + k : Nat) : Int) := by rw [show (n : Int) + (k : Int) = ((n + k : Nat) : Int) by omega]; exact wrap_nat (by omega)
  have eR3 : Int.tmod ((n + k : Nat) : Int) 5 = (((n + k) % 5 : Nat) : Int) := by rfl
  have C2 := q2_c (t := .full (.slc 6 [encO z] 1)) on ot om ox oy oz oy ou oy rfl (.full (.le (.refl _)))
  have C3 := q2_c (o := vtxO ⟨#[102]⟩) (t := .slc 6 [encO (vtxO ⟨#[102]⟩)] 1) on (t2 := ⟨#[102]⟩) (okS (by rfl)) om ox oy (vtxO_ok (okS (by rfl))) oy ou oy rfl (.le (.refl _))
  simp only [q2A, rawP, encC, vtxO, e0] at C2 C3
  simp only [encO, encS] at gu gt gm C2 C3
  refine awp_drawG [17, 19] (by decide +kernel) (by kernel_rfl) ?_
  repeat (first | (with_reducible first | refine Stp.up ?_ | refine fun (K : AS → Prop) hK => ?_ | refine adrawE_k (by decide) ?_ | refine adrawE_eff (by decide) ?_ | refine abox_plain (by decide) ?_ | refine abox_al ?_ | refine abox_st ?_ | refine adrawG_k (by decide) ?_ | refine adrawG_e (by decide) ?_) | (with_reducible refine hK _ ?_; clear hK; clear K) | simp only [go_sem, Nat.reduceAdd, Nat.reduceSub, Nat.reduceMul, Nat.reduceLeDiff, Nat.reduceEqDiff, Nat.reduceLT, Int.reduceToNat, ↓reduceIte, reduceCtorEq, Int.reduceLE, Int.reduceLT, Int.reduceNeg, Int.reduceEq, Int.reduceBEq, Int.reduceBNe, eL1, eL2, gx, gy, gu, eA, eR, ne_eq, not_false_eq_true] | (with_reducible refine And.intro (by omega) ?_) | (clear hK; clear K))
  refine awp_drawG [18, 20] (by decide +kernel) (by kernel_rfl) ?_
  repeat (first | (with_reducible first | refine Stp.up ?_ | refine fun (K : AS → Prop) hK => ?_ | refine adrawE_k (by decide) ?_ | refine adrawE_eff (by decide) ?_ | refine abox_plain (by decide) ?_ | refine abox_al ?_ | refine abox_st ?_ | refine adrawG_k (by decide) ?_ | refine adrawG_e (by decide) ?_) | (with_reducible refine hK _ ?_; clear hK; clear K) | simp only [go_sem, Nat.reduceAdd, Nat.reduceSub, Nat.reduceMul, Nat.reduceLeDiff, Nat.reduceEqDiff, Nat.reduceLT, Int.reduceToNat, ↓reduceIte, reduceCtorEq, Int.reduceLE, Int.reduceLT, Int.reduceNeg, Int.reduceEq, Int.reduceBEq, Int.reduceBNe, eL1, eL2, gn, gt, gm, eA2, eR2, eA3, eR3, ne_eq, not_false_eq_true] | (with_reducible refine And.intro (by omega) ?_) | (clear hK; clear K))
  refine awp_drawG [5] (by decide +kernel) (by kernel_rfl) ?_
  repeat (first | (with_reducible first | refine Stp.up ?_ | refine fun (K : AS → Prop) hK => ?_ | refine adrawE_k (by decide) ?_ | refine adrawE_eff (by decide) ?_ | refine abox_plain (by decide) ?_ | refine abox_al ?_ | refine abox_st ?_ | refine adrawG_k (by decide) ?_ | refine adrawG_e (by decide) ?_) | (with_reducible refine hK _ ?_; clear hK; clear K) | simp only [go_sem, Nat.reduceAdd, Nat.reduceSub, Nat.reduceMul, Nat.reduceLeDiff, Nat.reduceEqDiff, Nat.reduceLT, Int.reduceToNat, ↓reduceIte, reduceCtorEq, Int.reduceLE, Int.reduceLT, Int.reduceNeg, Int.reduceEq, Int.reduceBEq, Int.reduceBNe, eL1, eL2, gy] | (with_reducible refine And.intro (by omega) ?_) | (clear hK; clear K))
  refine ACallE.out (CallE.frz C2 40 rfl (by simp only [go_sem, Nat.reduceLeDiff]) rfl) ?_
  repeat (first | (with_reducible first | refine Stp.up ?_ | refine fun (K : AS → Prop) hK => ?_ | refine adrawE_k (by decide) ?_ | refine adrawE_eff (by decide) ?_ | refine abox_plain (by decide) ?_ | refine abox_al ?_ | refine abox_st ?_ | refine adrawG_k (by decide) ?_ | refine adrawG_e (by decide) ?_) | (with_reducible refine hK _ ?_; clear hK; clear K) | simp only [go_sem, Nat.reduceAdd, Nat.reduceSub, Nat.reduceMul, Nat.reduceLeDiff, Nat.reduceEqDiff, Nat.reduceLT, Int.reduceToNat, ↓reduceIte, reduceCtorEq, Int.reduceLE, Int.reduceLT, Int.reduceNeg, Int.reduceEq, Int.reduceBEq, Int.reduceBNe, eL1, eL2, gy] | (with_reducible refine And.intro (by omega) ?_) | (clear hK; clear K))
  refine ACallV.one V11 ?_
  repeat (first | (with_reducible first | refine Stp.up ?_ | refine fun (K : AS → Prop) hK => ?_ | refine adrawE_k (by decide) ?_ | refine adrawE_eff (by decide) ?_ | refine abox_plain (by decide) ?_ | refine abox_al ?_ | refine abox_st ?_ | refine adrawG_k (by decide) ?_ | refine adrawG_e (by decide) ?_) | (with_reducible refine hK _ ?_; clear hK; clear K) | simp only [go_sem, Nat.reduceAdd, Nat.reduceSub, Nat.reduceMul, Nat.reduceLeDiff, Nat.reduceEqDiff, Nat.reduceLT, Int.reduceToNat, ↓reduceIte, reduceCtorEq, Int.reduceLE, Int.reduceLT, Int.reduceNeg, Int.reduceEq, Int.reduceBEq, Int.reduceBNe, eL1, eL2, gy] | (with_reducible refine And.intro (by omega) ?_) | (clear hK; clear K))
  refine awp_drawG [5] (by decide +kernel) (by kernel_rfl) ?_
  repeat (first | (with_reducible first | refine Stp.up ?_ | refine fun (K : AS → Prop) hK => ?_ | refine adrawE_k (by decide) ?_ | refine adrawE_eff (by decide) ?_ | refine abox_plain (by decide) ?_ | refine abox_al ?_ | refine abox_st ?_ | refine adrawG_k (by decide) ?_ | refine adrawG_e (by decide) ?_) | (with_reducible refine hK _ ?_; clear hK; clear K) | simp only [go_sem, Nat.reduceAdd, Nat.reduceSub, Nat.reduceMul, Nat.reduceLeDiff, Nat.reduceEqDiff, Nat.reduceLT, Int.reduceToNat, ↓reduceIte, reduceCtorEq, Int.reduceLE, Int.reduceLT, Int.reduceNeg, Int.reduceEq, Int.reduceBEq, Int.reduceBNe, eL1, eL2, gy] | (with_reducible refine And.intro (by omega) ?_) | (clear hK; clear K))
  refine ACallE.out (CallE.frz C3 40 rfl (by simp only [go_sem, Nat.reduceLeDiff]) rfl) ?_
  repeat (first | (with_reducible first | refine Stp.up ?_ | refine fun (K : AS → Prop) hK => ?_ | refine adrawE_k (by decide) ?_ | refine adrawE_eff (by decide) ?_ | refine abox_plain (by decide) ?_ | refine abox_al ?_ | refine abox_st ?_ | refine adrawG_k (by decide) ?_ | refine adrawG_e (by decide) ?_) | (with_reducible refine hK _ ?_; clear hK; clear K) | simp only [go_sem, Nat.reduceAdd, Nat.reduceSub, Nat.reduceMul, Nat.reduceLeDiff, Nat.reduceEqDiff, Nat.reduceLT, Int.reduceToNat, ↓reduceIte, reduceCtorEq, Int.reduceLE, Int.reduceLT, Int.reduceNeg, Int.reduceEq, Int.reduceBEq, Int.reduceBNe, eL1, eL2, eWk] | (with_reducible refine And.intro (by omega) ?_) | (clear hK; clear K))
  exact LNext.mk (k + 1) (by omega) (by omega) (by (refine wk_mk ?_ ?_ ?_ <;> simp only [frm, List.foldl_cons, List.foldl_nil, List.replicate_succ, List.replicate_zero, WkT, WkO, AV.v.injEq, Value.int.injEq, Value.bool.injEq, Value.string.injEq, AV.vec.injEq, AV.ptr.injEq, true_or, or_true, false_or, or_false, AObj.mk.injEq, forall_eq_apply_imp_iff, forall_eq, forall_eq', go_sem, Nat.reduceAdd, Nat.reduceSub, Nat.reduceMul, Nat.reduceLeDiff, Nat.reduceEqDiff, Nat.reduceLT, Int.reduceToNat, ↓reduceIte, reduceCtorEq, Int.reduceLE, Int.reduceLT, Int.reduceNeg, Int.reduceEq, Int.reduceBEq, Int.reduceBNe]))
end Go.Proofs.Yteihcfhdhkamfaa
