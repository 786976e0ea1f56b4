/- kinescopelaw14.CheckOrder: the walk. -/
import Derived.Test.YteihcfhdhkamfaaOLawA14
import Derived.Test.YteihcfhdhkamfaaOLens
import Derived.Test.YteihcfhdhkamfaaOCopy
import Derived.Test.YteihcfhdhkamfaaORen2
set_option linter.unusedSimpArgs false
set_option linter.unusedVariables false
namespace Go.Proofs.Yteihcfhdhkamfaa
open Go.RowKit

/-- conditions that lie as these, or the other way round -/
def SwA (a b : List Cnd) : Prop := a.length = b.length ∧ ∀ (k : Nat) (h : k < a.length) (h' : k < b.length), a[k] = b[k] ∨ a[k] = swapC b[k]
theorem SwA.set {a b : List Cnd} (h : SwA a b) {i : Nat} (hi : i < a.length) : SwA (a.set i (swapC a[i])) b := by
  obtain ⟨h1, h2⟩ := h
  refine ⟨by simpa using h1, fun k hk hk' => ?_⟩
  rw [List.getElem_set]
  split
  · rename_i e; subst e
    rcases h2 i hi hk' with e | e
    · rw [e]; exact .inr rfl
    · rw [e]; exact .inl rfl
  · exact h2 k (by simpa using hk) hk'
theorem SwA.chk {q : Qry} {ps : List Pat} {cs : List Cnd} {rs : List Opd} {k : Nat} (hp : ps.Perm q.pats) (hr : rs.Perm q.ret) (h : SwA cs (rot k q.conds)) : chkQ ⟨ps, cs, rs, q.range, q.slide⟩ = chkQ q := by
  have hm := rot_perm k q.conds
  obtain ⟨h1, h2⟩ := h
  refine chk_perm hp (by simp only; rw [h1]; exact hm.length_eq) (fun c hc => ?_) (fun c hc => ?_) hr rfl rfl
  · obtain ⟨i, hi, rfl⟩ := List.getElem_of_mem hc
    have hi' : i < (rot k q.conds).length := by simp only at hi; omega
    rcases h2 i hi hi' with e | e
    · left; simp only; rw [e]; exact hm.mem_iff.1 (List.getElem_mem _)
    · right; simp only; rw [e]; exact hm.mem_iff.1 (List.getElem_mem _)
  · obtain ⟨i, hi, rfl⟩ := List.getElem_of_mem (hm.mem_iff.2 hc)
    have hi' : i < cs.length := by omega
    rcases h2 i hi' hi with e | e
    · left; rw [← e]; exact List.getElem_mem _
    · right; have : swapC (rot k q.conds)[i] = cs[i] := e.symm
      rw [this]; exact List.getElem_mem _

theorem SwA.ok {q : Qry} {ps : List Pat} {cs : List Cnd} {rs : List Opd} {k : Nat} (h : SwA cs (rot k q.conds)) (oq : q.ok) (hp : ps.Perm q.pats) (hr : rs.Perm q.ret) : (⟨ps, cs, rs, q.range, q.slide⟩ : Qry).ok := by
  refine ⟨fun p h => oq.1 p (hp.mem_iff.1 h), fun c hc => ?_, fun o h => oq.2.2 o (hr.mem_iff.1 h)⟩
  obtain ⟨i, hi, rfl⟩ := List.getElem_of_mem hc
  have hi' : i < (rot k q.conds).length := by have := h.1; simp only at hi; omega
  rcases h.2 i hi hi' with e | e
  · simp only; rw [e]; exact oq.2.1 _ ((rot_perm k q.conds).mem_iff.1 (List.getElem_mem _))
  · simp only; rw [e]
    have := oq.2.1 _ ((rot_perm k q.conds).mem_iff.1 (List.getElem_mem hi'))
    exact ⟨this.2, this.1⟩
theorem map_ok {f : ByteArray → ByteArray} (hf : ∀ s, okT s → okT (f s)) {q : Qry} (oq : q.ok) : (mapQ f q).ok := by
  have ho : ∀ o : Opd, o.ok → (mapO f o).ok := fun o h => by
    unfold mapO
    split
    · exact ⟨hf _ h.1, h.2⟩
    · exact h
  refine ⟨fun p hp => ?_, fun c hc => ?_, fun o hm => ?_⟩
  · obtain ⟨p0, h0, rfl⟩ := List.mem_map.1 hp
    obtain ⟨a1, a2, a3, a4, a5⟩ := oq.1 p0 h0
    refine ⟨hf _ a1, hf _ a2, a3, ?_, a5⟩
    show okT (if noB p0.name then p0.name else f p0.name)
    split
    · exact a4
    · exact hf _ a4
  · obtain ⟨c0, h0, rfl⟩ := List.mem_map.1 hc
    have := oq.2.1 c0 h0
    exact ⟨ho _ this.1, ho _ this.2⟩
  · obtain ⟨o0, h0, rfl⟩ := List.mem_map.1 hm
    exact ho _ (oq.2.2 o0 h0)
theorem per_ok : ∀ s, okT s → okT (renN perA perB s) := fun s hs => by
  by_cases h : s ∈ perA
  · have h2 : renN perA perB s ∈ perB := hasB_iff.1 (List.all_eq_true.1 (by decide +kernel : perA.all (fun s => hasB perB (renN perA perB s)) = true) s h)
    have h3 := List.all_eq_true.1 (by decide +kernel : perB.all (fun s => decide (s.size ≤ 1)) = true) _ h2
    simp only [decide_eq_true_eq] at h3
    unfold okT; omega
  · rw [renN_not h]; exact hs

set_option maxRecDepth 100000 in
set_option maxHeartbeats 8000000 in
theorem lawCheckOrder_c (q : Qry) (turn : Int) (hq : q.small) (oq : q.ok) : Call1 Try.prog 10 [.agg (encQ q), .v (.int .i64 turn)] (.v (.bool true)) := by
  have S1 := size14_c q hq
  have W := awake14_c
  simp only [encQ] at S1
  simp only [encQ]
  (refine Call1.enter Try.func10 rfl (by kernel_rfl) (by kernel_rfl) rfl (by first | rfl | (simp only [go_sem, Bool.and_self, Bool.and_true, Bool.true_and])) (by first | rfl | (simp only [go_sem, Bool.and_self, Bool.and_true, Bool.true_and])) ?_; simp only [Try.ntmps10, Try.results10, List.length_cons, List.length_nil, Nat.reduceAdd, Nat.reduceSub, List.replicate_succ, List.replicate_zero, List.cons_append, List.nil_append])
  repeat (first | (with_reducible first | refine Stp.up ?_ | refine fun (K : AS → Prop) hK => ?_ | refine awp_drawE (by decide +kernel) (by kernel_rfl) ?_ | refine awp_draw (by kernel_rfl) (by decide) ?_ | refine awp_boxes (by kernel_rfl) (by kernel_rfl) (by kernel_rfl) ?_ | refine adrawE_k (by decide) ?_ | refine adrawE_eff (by decide) ?_ | refine abox_plain (by decide) ?_ | refine abox_al ?_ | refine abox_st ?_ | refine adrawG_k (by decide) ?_ | refine adrawG_e (by decide) ?_) | (with_reducible refine hK _ ?_; clear hK; clear K) | simp only [go_sem, Nat.reduceAdd, Nat.reduceSub, Nat.reduceMul, Nat.reduceLeDiff, Nat.reduceEqDiff, Nat.reduceLT, Int.reduceToNat, ↓reduceIte, reduceCtorEq, Int.reduceLE, Int.reduceLT, Int.reduceNeg, Int.reduceEq, Int.reduceBEq, Int.reduceBNe] | (with_reducible refine And.intro (by omega) ?_) | (refine adrawG_f rfl ?_) | (clear hK; clear K))
  refine ACallV.one W ?_
  repeat (first | (with_reducible first | refine Stp.up ?_ | refine fun (K : AS → Prop) hK => ?_ | refine awp_drawE (by decide +kernel) (by kernel_rfl) ?_ | refine awp_draw (by kernel_rfl) (by decide) ?_ | refine awp_boxes (by kernel_rfl) (by kernel_rfl) (by kernel_rfl) ?_ | refine adrawE_k (by decide) ?_ | refine adrawE_eff (by decide) ?_ | refine abox_plain (by decide) ?_ | refine abox_al ?_ | refine abox_st ?_ | refine adrawG_k (by decide) ?_ | refine adrawG_e (by decide) ?_) | (with_reducible refine hK _ ?_; clear hK; clear K) | simp only [go_sem, Nat.reduceAdd, Nat.reduceSub, Nat.reduceMul, Nat.reduceLeDiff, Nat.reduceEqDiff, Nat.reduceLT, Int.reduceToNat, ↓reduceIte, reduceCtorEq, Int.reduceLE, Int.reduceLT, Int.reduceNeg, Int.reduceEq, Int.reduceBEq, Int.reduceBNe] | (with_reducible refine And.intro (by omega) ?_) | (refine adrawG_f rfl ?_) | (clear hK; clear K))
  refine ACallV.one S1 ?_
  repeat (first | (with_reducible first | refine Stp.up ?_ | refine fun (K : AS → Prop) hK => ?_ | refine awp_drawE (by decide +kernel) (by kernel_rfl) ?_ | refine awp_draw (by kernel_rfl) (by decide) ?_ | refine awp_boxes (by kernel_rfl) (by kernel_rfl) (by kernel_rfl) ?_ | refine adrawE_k (by decide) ?_ | refine adrawE_eff (by decide) ?_ | refine abox_plain (by decide) ?_ | refine abox_al ?_ | refine abox_st ?_ | refine adrawG_k (by decide) ?_ | refine adrawG_e (by decide) ?_) | (with_reducible refine hK _ ?_; clear hK; clear K) | simp only [go_sem, Nat.reduceAdd, Nat.reduceSub, Nat.reduceMul, Nat.reduceLeDiff, Nat.reduceEqDiff, Nat.reduceLT, Int.reduceToNat, ↓reduceIte, reduceCtorEq, Int.reduceLE, Int.reduceLT, Int.reduceNeg, Int.reduceEq, Int.reduceBEq, Int.reduceBNe] | (with_reducible refine And.intro (by omega) ?_) | (refine adrawG_f rfl ?_) | (clear hK; clear K))
  refine AIf.part (fun h1 => ?_) (fun h1 => ?_)
  · repeat (first | (with_reducible first | refine Stp.up ?_ | refine fun (K : AS → Prop) hK => ?_ | refine awp_drawE (by decide +kernel) (by kernel_rfl) ?_ | refine awp_draw (by kernel_rfl) (by decide) ?_ | refine awp_boxes (by kernel_rfl) (by kernel_rfl) (by kernel_rfl) ?_ | refine adrawE_k (by decide) ?_ | refine adrawE_eff (by decide) ?_ | refine abox_plain (by decide) ?_ | refine abox_al ?_ | refine abox_st ?_ | refine adrawG_k (by decide) ?_ | refine adrawG_e (by decide) ?_) | (with_reducible refine hK _ ?_; clear hK; clear K) | simp only [go_sem, Nat.reduceAdd, Nat.reduceSub, Nat.reduceMul, Nat.reduceLeDiff, Nat.reduceEqDiff, Nat.reduceLT, Int.reduceToNat, ↓reduceIte, reduceCtorEq, Int.reduceLE, Int.reduceLT, Int.reduceNeg, Int.reduceEq, Int.reduceBEq, Int.reduceBNe, h1] | (with_reducible refine And.intro (by omega) ?_) | (refine adrawG_f rfl ?_) | (clear hK; clear K))
  · have b1 : szQ q ≤ 400 := by (try simp only [bne_iff_ne, ne_eq, bne_eq_false_iff_eq, beq_iff_eq, beq_eq_false_iff_ne, decide_eq_true_eq, decide_eq_false_iff_not, Bool.not_eq_true', Bool.not_eq_false', Bool.not_eq_eq_eq_not, Bool.not_true, Bool.not_false, Int.natCast_inj, Int.ofNat_lt, Int.ofNat_le] at h1); omega
    have z1 := szQ_spec b1
    have n1 := q_lens b1
    have Q1 := query14_c q oq (by omega) n1.2.1 n1.2.2.1
    have C1 := copyQuery_c q n1
    have R1 := treeRight_c q oq
    obtain ⟨ps, cs, rs, ra, sl⟩ := q
    have l2 : cs.length ≤ 1000 := by have := z1.1; simp only at this; omega
    have l3 : rs.length ≤ 1000 := by have := z1.1; simp only at this; omega
    have l1 : ps.length ≤ 1000 := by have := z1.1; simp only at this; omega
    simp only [encQ] at Q1 C1 R1
    repeat (first | (with_reducible first | refine Stp.up ?_ | refine fun (K : AS → Prop) hK => ?_ | refine adrawE_k (by decide) ?_ | refine adrawE_eff (by decide) ?_ | refine abox_plain (by decide) ?_ | refine abox_al ?_ | refine abox_st ?_ | refine adrawG_k (by decide) ?_ | refine adrawG_e (by decide) ?_) | (with_reducible refine hK _ ?_; clear hK; clear K) | simp only [go_sem, Nat.reduceAdd, Nat.reduceSub, Nat.reduceMul, Nat.reduceLeDiff, Nat.reduceEqDiff, Nat.reduceLT, Int.reduceToNat, ↓reduceIte, reduceCtorEq, Int.reduceLE, Int.reduceLT, Int.reduceNeg, Int.reduceEq, Int.reduceBEq, Int.reduceBNe, h1] | (with_reducible refine And.intro (by omega) ?_) | (refine adrawG_f rfl ?_) | (clear hK; clear K))
    refine ACallV.one C1 ?_
    repeat (first | (with_reducible first | refine Stp.up ?_ | refine fun (K : AS → Prop) hK => ?_ | refine adrawE_k (by decide) ?_ | refine adrawE_eff (by decide) ?_ | refine abox_plain (by decide) ?_ | refine abox_al ?_ | refine abox_st ?_ | refine adrawG_k (by decide) ?_ | refine adrawG_e (by decide) ?_) | (with_reducible refine hK _ ?_; clear hK; clear K) | simp only [go_sem, Nat.reduceAdd, Nat.reduceSub, Nat.reduceMul, Nat.reduceLeDiff, Nat.reduceEqDiff, Nat.reduceLT, Int.reduceToNat, ↓reduceIte, reduceCtorEq, Int.reduceLE, Int.reduceLT, Int.reduceNeg, Int.reduceEq, Int.reduceBEq, Int.reduceBNe] | (with_reducible refine And.intro (by omega) ?_) | (refine adrawG_f rfl ?_) | (clear hK; clear K))
    have pk : ∀ (x : Int) (n : Nat), n ≤ 1000 → ∃ k : Nat, k ≤ n ∧ Call1 Try.prog 43 [.v (.int .i64 x), .v (.int .i64 (n + 1 : Nat))] (.v (.int .i64 k)) := fun x n hn => by
      have P := pick_c x (n + 1 : Nat) (by omega)
      have hr := pickI_range (x := x) (n := (n + 1 : Nat)) (by omega)
      refine ⟨(pickI x (n + 1 : Nat)).toNat, by omega, ?_⟩
      rw [Int.toNat_of_nonneg hr.1]; exact P
    have wS : ∀ n : Nat, n ≤ 1000 → IntKind.i64.wrap ((n : Int) + 1) = ((n + 1 : Nat) : Int) := fun n h => wrap_succ (k := n) (by omega)
    have w1 := wS _ l1
    have w2 := wS _ l2
    have w3 := wS _ l3
    obtain ⟨k, hk, P1⟩ := pk turn ps.length l1
    repeat (first | (with_reducible first | refine Stp.up ?_ | refine fun (K : AS → Prop) hK => ?_ | refine adrawE_k (by decide) ?_ | refine adrawE_eff (by decide) ?_ | refine abox_plain (by decide) ?_ | refine abox_al ?_ | refine abox_st ?_ | refine adrawG_k (by decide) ?_ | refine adrawG_e (by decide) ?_) | (with_reducible refine hK _ ?_; clear hK; clear K) | simp only [go_sem, Nat.reduceAdd, Nat.reduceSub, Nat.reduceMul, Nat.reduceLeDiff, Nat.reduceEqDiff, Nat.reduceLT, Int.reduceToNat, ↓reduceIte, reduceCtorEq, Int.reduceLE, Int.reduceLT, Int.reduceNeg, Int.reduceEq, Int.reduceBEq, Int.reduceBNe, w1] | (with_reducible refine And.intro (by omega) ?_) | (refine adrawG_f rfl ?_) | (clear hK; clear K))
    refine ACallV.one P1 ?_
    repeat (first | (with_reducible first | refine Stp.up ?_ | refine fun (K : AS → Prop) hK => ?_ | refine adrawE_k (by decide) ?_ | refine adrawE_eff (by decide) ?_ | refine abox_plain (by decide) ?_ | refine abox_al ?_ | refine abox_st ?_ | refine adrawG_k (by decide) ?_ | refine adrawG_e (by decide) ?_) | (with_reducible refine hK _ ?_; clear hK; clear K) | simp only [go_sem, Nat.reduceAdd, Nat.reduceSub, Nat.reduceMul, Nat.reduceLeDiff, Nat.reduceEqDiff, Nat.reduceLT, Int.reduceToNat, ↓reduceIte, reduceCtorEq, Int.reduceLE, Int.reduceLT, Int.reduceNeg, Int.reduceEq, Int.reduceBEq, Int.reduceBNe] | (with_reducible refine And.intro (by omega) ?_) | (refine adrawG_f rfl ?_) | (clear hK; clear K))
    have rotE : ∀ {α : Type} (f : α → List AV) (l : List α) (k : Nat), k ≤ l.length → ((l.map f).drop k).take (l.length - k) = (l.drop k).map f ∧ (l.drop k).length = l.length - k ∧ (l.map f).take k = (l.take k).map f ∧ (l.take k).length = k ∧ (l.drop k).map f ++ (l.take k).map f = (rot k l).map f ∧ l.length - k + k = (rot k l).length := fun f l k hk => by
      refine ⟨?_, by simp, by rw [List.map_take], by simp; omega, by simp [rot], by simp [rot]; omega⟩
      rw [← List.map_drop]; exact take_all (by simp)
    obtain ⟨r1, r2, r3, r4, r5, r6⟩ := rotE encP ps k hk
    refine awp_drawG [0, 5, 10, 12] [(2, 0), (4, 0), (7, 0), (9, 0)] (by decide +kernel) (by kernel_rfl) ?_
    repeat (first | (with_reducible first | refine Stp.up ?_ | refine fun (K : AS → Prop) hK => ?_ | refine adrawE_k (by decide) ?_ | refine adrawE_eff (by decide) ?_ | refine abox_plain (by decide) ?_ | refine abox_al ?_ | refine abox_st ?_ | refine adrawG_k (by decide) ?_ | refine adrawG_e (by decide) ?_) | (with_reducible refine hK _ ?_; clear hK; clear K) | simp only [go_sem, Nat.reduceAdd, Nat.reduceSub, Nat.reduceMul, Nat.reduceLeDiff, Nat.reduceEqDiff, Nat.reduceLT, Int.reduceToNat, ↓reduceIte, reduceCtorEq, Int.reduceLE, Int.reduceLT, Int.reduceNeg, Int.reduceEq, Int.reduceBEq, Int.reduceBNe, r1, r2, r3, r4, List.length_map] | (with_reducible refine And.intro (by omega) ?_) | (refine adrawG_f rfl ?_) | (clear hK; clear K))
    simp only [r5, r6]
    have Lp : (rot k ps).length = ps.length := (rot_perm k ps).length_eq
    have Pp := rot_perm k ps
    generalize rot k ps = ps' at Lp Pp ⊢
    clear r1 r2 r3 r4 r5 r6
    clear hk P1
    obtain ⟨k2, hk, P1⟩ := pk (IntKind.i64.wrap (turn.tdiv 5)) cs.length l2
    repeat (first | (with_reducible first | refine Stp.up ?_ | refine fun (K : AS → Prop) hK => ?_ | refine adrawE_k (by decide) ?_ | refine adrawE_eff (by decide) ?_ | refine abox_plain (by decide) ?_ | refine abox_al ?_ | refine abox_st ?_ | refine adrawG_k (by decide) ?_ | refine adrawG_e (by decide) ?_) | (with_reducible refine hK _ ?_; clear hK; clear K) | simp only [go_sem, Nat.reduceAdd, Nat.reduceSub, Nat.reduceMul, Nat.reduceLeDiff, Nat.reduceEqDiff, Nat.reduceLT, Int.reduceToNat, ↓reduceIte, reduceCtorEq, Int.reduceLE, Int.reduceLT, Int.reduceNeg, Int.reduceEq, Int.reduceBEq, Int.reduceBNe, w2] | (with_reducible refine And.intro (by omega) ?_) | (refine adrawG_f rfl ?_) | (clear hK; clear K))
    refine ACallV.one P1 ?_
    repeat (first | (with_reducible first | refine Stp.up ?_ | refine fun (K : AS → Prop) hK => ?_ | refine adrawE_k (by decide) ?_ | refine adrawE_eff (by decide) ?_ | refine abox_plain (by decide) ?_ | refine abox_al ?_ | refine abox_st ?_ | refine adrawG_k (by decide) ?_ | refine adrawG_e (by decide) ?_) | (with_reducible refine hK _ ?_; clear hK; clear K) | simp only [go_sem, Nat.reduceAdd, Nat.reduceSub, Nat.reduceMul, Nat.reduceLeDiff, Nat.reduceEqDiff, Nat.reduceLT, Int.reduceToNat, ↓reduceIte, reduceCtorEq, Int.reduceLE, Int.reduceLT, Int.reduceNeg, Int.reduceEq, Int.reduceBEq, Int.reduceBNe] | (with_reducible refine And.intro (by omega) ?_) | (refine adrawG_f rfl ?_) | (clear hK; clear K))
    obtain ⟨r1, r2, r3, r4, r5, r6⟩ := rotE encC cs k2 hk
    refine awp_drawG [0, 5, 10, 12] [(2, 0), (4, 0), (7, 0), (9, 0)] (by decide +kernel) (by kernel_rfl) ?_
    repeat (first | (with_reducible first | refine Stp.up ?_ | refine fun (K : AS → Prop) hK => ?_ | refine adrawE_k (by decide) ?_ | refine adrawE_eff (by decide) ?_ | refine abox_plain (by decide) ?_ | refine abox_al ?_ | refine abox_st ?_ | refine adrawG_k (by decide) ?_ | refine adrawG_e (by decide) ?_) | (with_reducible refine hK _ ?_; clear hK; clear K) | simp only [go_sem, Nat.reduceAdd, Nat.reduceSub, Nat.reduceMul, Nat.reduceLeDiff, Nat.reduceEqDiff, Nat.reduceLT, Int.reduceToNat, ↓reduceIte, reduceCtorEq, Int.reduceLE, Int.reduceLT, Int.reduceNeg, Int.reduceEq, Int.reduceBEq, Int.reduceBNe, r1, r2, r3, r4, List.length_map] | (with_reducible refine And.intro (by omega) ?_) | (refine adrawG_f rfl ?_) | (clear hK; clear K))
    simp only [r5, r6]
    have Lc : (rot k2 cs).length = cs.length := (rot_perm k2 cs).length_eq
    clear r1 r2 r3 r4 r5 r6 P1
    have A0 : SwA (rot k2 cs) (rot k2 cs) := ⟨rfl, fun _ _ _ => .inl rfl⟩
    generalize hc0 : rot k2 cs = c0 at Lc A0 ⊢
    refine awp_loopO (ι := Nat × List Cnd) 14 (fun x => [(8, .v (.int .i64 x.1)), (9, .undef)]) (fun x => [some ⟨26, 5, false, [[.slc 8 (ps.map encP) ps.length, .slc 13 (cs.map encC) cs.length, .slc 6 (rs.map encO) rs.length, .v (.int .i64 ra), .v (.int .i64 sl)]]⟩,
      some ⟨26, 5, false, [[.vec 2 ps'.length, .vec 3 c0.length, .slc 6 (rs.map encO) rs.length, .v (.int .i64 ra), .v (.int .i64 sl)]]⟩, some ⟨61, 8, true, ps'.map encP⟩, some ⟨55, 13, true, x.2.map encC⟩]) (fun x => c0.length - x.1) (fun x => x.1 ≤ c0.length ∧ SwA x.2 c0) (0, c0) ⟨Nat.zero_le _, A0⟩ ?_ ?_
    · (refine wk_mk ?_ ?_ ?_ <;> simp only [frm, List.foldl_cons, List.foldl_nil, List.replicate_succ, List.replicate_zero, WkT, WkO, AV.v.injEq, Value.int.injEq, Value.bool.injEq, Value.string.injEq, AV.vec.injEq, AV.ptr.injEq, true_or, or_true, false_or, or_false, AObj.mk.injEq, forall_eq_apply_imp_iff, forall_eq, forall_eq', go_sem, Nat.reduceAdd, Nat.reduceSub, Nat.reduceMul, Nat.reduceLeDiff, Nat.reduceEqDiff, Nat.reduceLT, Int.reduceToNat, ↓reduceIte, reduceCtorEq, Int.reduceLE, Int.reduceLT, Int.reduceNeg, Int.reduceEq, Int.reduceBEq, Int.reduceBNe])
      all_goals rfl
    rintro ⟨i, c'⟩ ⟨hi, hA⟩ K hK
    simp only at hi hA
    have hL := hA.1
    repeat (first | (with_reducible first | refine Stp.up ?_ | refine fun (K : AS → Prop) hK => ?_ | refine adrawE_k (by decide) ?_ | refine adrawE_eff (by decide) ?_ | refine abox_plain (by decide) ?_ | refine abox_al ?_ | refine abox_st ?_ | refine adrawG_k (by decide) ?_ | refine adrawG_e (by decide) ?_) | (with_reducible refine hK _ ?_; clear hK; clear K) | simp only [go_sem, Nat.reduceAdd, Nat.reduceSub, Nat.reduceMul, Nat.reduceLeDiff, Nat.reduceEqDiff, Nat.reduceLT, Int.reduceToNat, ↓reduceIte, reduceCtorEq, Int.reduceLE, Int.reduceLT, Int.reduceNeg, Int.reduceEq, Int.reduceBEq, Int.reduceBNe] | (with_reducible refine And.intro (by omega) ?_) | (refine adrawG_f rfl ?_) | (clear hK; clear K))
    refine AIf.part (fun h => ?_) (fun h => ?_)
    · have hlt : i < c'.length := by (try simp only [bne_iff_ne, ne_eq, bne_eq_false_iff_eq, beq_iff_eq, beq_eq_false_iff_ne, decide_eq_true_eq, decide_eq_false_iff_not, Bool.not_eq_true', Bool.not_eq_false', Bool.not_eq_eq_eq_not, Bool.not_true, Bool.not_false, Int.natCast_inj, Int.ofNat_lt, Int.ofNat_le] at h); omega
      have eW := wrap_succ (k := i) (by omega)
      have eG := getD_map encC c' i [] hlt
      have eS : (c'.map encC).set i (encC (swapC c'[i])) = (c'.set i (swapC c'[i])).map encC := by rw [List.map_set]
      have hA2 := hA.set hlt
      repeat (first | (with_reducible first | refine Stp.up ?_ | refine fun (K : AS → Prop) hK => ?_ | refine adrawE_k (by decide) ?_ | refine adrawE_eff (by decide) ?_ | refine abox_plain (by decide) ?_ | refine abox_al ?_ | refine abox_st ?_ | refine adrawG_k (by decide) ?_ | refine adrawG_e (by decide) ?_) | (with_reducible refine hK _ ?_; clear hK; clear K) | simp only [go_sem, Nat.reduceAdd, Nat.reduceSub, Nat.reduceMul, Nat.reduceLeDiff, Nat.reduceEqDiff, Nat.reduceLT, Int.reduceToNat, ↓reduceIte, reduceCtorEq, Int.reduceLE, Int.reduceLT, Int.reduceNeg, Int.reduceEq, Int.reduceBEq, Int.reduceBNe, h] | (with_reducible refine And.intro (by omega) ?_) | (refine adrawG_f rfl ?_) | (clear hK; clear K))
      refine AIf.part (fun h2 => ?_) (fun h2 => ?_)
      · simp only [encC, encO, swapC] at eG eS
        repeat (first | (with_reducible first | refine Stp.up ?_ | refine fun (K : AS → Prop) hK => ?_ | refine adrawE_k (by decide) ?_ | refine adrawE_eff (by decide) ?_ | refine abox_plain (by decide) ?_ | refine abox_al ?_ | refine abox_st ?_ | refine adrawG_k (by decide) ?_ | refine adrawG_e (by decide) ?_) | (with_reducible refine hK _ ?_; clear hK; clear K) | simp only [go_sem, Nat.reduceAdd, Nat.reduceSub, Nat.reduceMul, Nat.reduceLeDiff, Nat.reduceEqDiff, Nat.reduceLT, Int.reduceToNat, ↓reduceIte, reduceCtorEq, Int.reduceLE, Int.reduceLT, Int.reduceNeg, Int.reduceEq, Int.reduceBEq, Int.reduceBNe, h2, eG, eS, eW, hL] | (with_reducible refine And.intro (by omega) ?_) | (refine adrawG_f rfl ?_) | (clear hK; clear K))
        exact LNext.mk (i + 1, c'.set i (swapC c'[i])) ⟨by simp only; omega, hA2⟩ (by simp only; omega) (by (refine wk_mk ?_ ?_ ?_ <;> simp only [frm, List.foldl_cons, List.foldl_nil, List.replicate_succ, List.replicate_zero, WkT, WkO, AV.v.injEq, Value.int.injEq, Value.bool.injEq, Value.string.injEq, AV.vec.injEq, AV.ptr.injEq, true_or, or_true, false_or, or_false, AObj.mk.injEq, forall_eq_apply_imp_iff, forall_eq, forall_eq', go_sem, Nat.reduceAdd, Nat.reduceSub, Nat.reduceMul, Nat.reduceLeDiff, Nat.reduceEqDiff, Nat.reduceLT, Int.reduceToNat, ↓reduceIte, reduceCtorEq, Int.reduceLE, Int.reduceLT, Int.reduceNeg, Int.reduceEq, Int.reduceBEq, Int.reduceBNe]); rfl)
      · repeat (first | (with_reducible first | refine Stp.up ?_ | refine fun (K : AS → Prop) hK => ?_ | refine adrawE_k (by decide) ?_ | refine adrawE_eff (by decide) ?_ | refine abox_plain (by decide) ?_ | refine abox_al ?_ | refine abox_st ?_ | refine adrawG_k (by decide) ?_ | refine adrawG_e (by decide) ?_) | (with_reducible refine hK _ ?_; clear hK; clear K) | simp only [go_sem, Nat.reduceAdd, Nat.reduceSub, Nat.reduceMul, Nat.reduceLeDiff, Nat.reduceEqDiff, Nat.reduceLT, Int.reduceToNat, ↓reduceIte, reduceCtorEq, Int.reduceLE, Int.reduceLT, Int.reduceNeg, Int.reduceEq, Int.reduceBEq, Int.reduceBNe, h2, eW] | (with_reducible refine And.intro (by omega) ?_) | (refine adrawG_f rfl ?_) | (clear hK; clear K))
        exact LNext.mk (i + 1, c') ⟨by simp only; omega, hA⟩ (by simp only; omega) (by (refine wk_mk ?_ ?_ ?_ <;> simp only [frm, List.foldl_cons, List.foldl_nil, List.replicate_succ, List.replicate_zero, WkT, WkO, AV.v.injEq, Value.int.injEq, Value.bool.injEq, Value.string.injEq, AV.vec.injEq, AV.ptr.injEq, true_or, or_true, false_or, or_false, AObj.mk.injEq, forall_eq_apply_imp_iff, forall_eq, forall_eq', go_sem, Nat.reduceAdd, Nat.reduceSub, Nat.reduceMul, Nat.reduceLeDiff, Nat.reduceEqDiff, Nat.reduceLT, Int.reduceToNat, ↓reduceIte, reduceCtorEq, Int.reduceLE, Int.reduceLT, Int.reduceNeg, Int.reduceEq, Int.reduceBEq, Int.reduceBNe]))
    obtain ⟨k3, hk3, P3⟩ := pk (IntKind.i64.wrap (turn.tdiv 35)) rs.length l3
    repeat (first | (with_reducible first | refine Stp.up ?_ | refine fun (K : AS → Prop) hK => ?_ | refine adrawE_k (by decide) ?_ | refine adrawE_eff (by decide) ?_ | refine abox_plain (by decide) ?_ | refine abox_al ?_ | refine abox_st ?_ | refine adrawG_k (by decide) ?_ | refine adrawG_e (by decide) ?_) | (with_reducible refine hK _ ?_; clear hK; clear K) | simp only [go_sem, Nat.reduceAdd, Nat.reduceSub, Nat.reduceMul, Nat.reduceLeDiff, Nat.reduceEqDiff, Nat.reduceLT, Int.reduceToNat, ↓reduceIte, reduceCtorEq, Int.reduceLE, Int.reduceLT, Int.reduceNeg, Int.reduceEq, Int.reduceBEq, Int.reduceBNe, h, w3] | (with_reducible refine And.intro (by omega) ?_) | (refine adrawG_f rfl ?_) | (clear hK; clear K))
    refine ACallV.one P3 ?_
    repeat (first | (with_reducible first | refine Stp.up ?_ | refine fun (K : AS → Prop) hK => ?_ | refine adrawE_k (by decide) ?_ | refine adrawE_eff (by decide) ?_ | refine abox_plain (by decide) ?_ | refine abox_al ?_ | refine abox_st ?_ | refine adrawG_k (by decide) ?_ | refine adrawG_e (by decide) ?_) | (with_reducible refine hK _ ?_; clear hK; clear K) | simp only [go_sem, Nat.reduceAdd, Nat.reduceSub, Nat.reduceMul, Nat.reduceLeDiff, Nat.reduceEqDiff, Nat.reduceLT, Int.reduceToNat, ↓reduceIte, reduceCtorEq, Int.reduceLE, Int.reduceLT, Int.reduceNeg, Int.reduceEq, Int.reduceBEq, Int.reduceBNe] | (with_reducible refine And.intro (by omega) ?_) | (refine adrawG_f rfl ?_) | (clear hK; clear K))
    obtain ⟨r1, r2, r3, r4, r5, r6⟩ := rotE encO rs k3 hk3
    refine awp_drawG [0, 5, 10, 12] [(2, 0), (4, 0), (7, 0), (9, 0)] (by decide +kernel) (by kernel_rfl) ?_
    repeat (first | (with_reducible first | refine Stp.up ?_ | refine fun (K : AS → Prop) hK => ?_ | refine adrawE_k (by decide) ?_ | refine adrawE_eff (by decide) ?_ | refine abox_plain (by decide) ?_ | refine abox_al ?_ | refine abox_st ?_ | refine adrawG_k (by decide) ?_ | refine adrawG_e (by decide) ?_) | (with_reducible refine hK _ ?_; clear hK; clear K) | simp only [go_sem, Nat.reduceAdd, Nat.reduceSub, Nat.reduceMul, Nat.reduceLeDiff, Nat.reduceEqDiff, Nat.reduceLT, Int.reduceToNat, ↓reduceIte, reduceCtorEq, Int.reduceLE, Int.reduceLT, Int.reduceNeg, Int.reduceEq, Int.reduceBEq, Int.reduceBNe, r1, r2, r3, r4, List.length_map] | (with_reducible refine And.intro (by omega) ?_) | (refine adrawG_f rfl ?_) | (clear hK; clear K))
    simp only [r5, r6]
    have Pr := rot_perm k3 rs
    generalize rot k3 rs = rs' at Pr ⊢
    clear r1 r2 r3 r4 r5 r6 P3
    have RN := rename_c ⟨ps, cs, rs, ra, sl⟩ perA perB n1 rfl (by decide) (by decide +kernel)
    simp only [encQ, strsA, mapQ, List.length_map] at RN
    repeat (first | (with_reducible first | refine Stp.up ?_ | refine fun (K : AS → Prop) hK => ?_ | refine adrawE_k (by decide) ?_ | refine adrawE_eff (by decide) ?_ | refine abox_plain (by decide) ?_ | refine abox_al ?_ | refine abox_st ?_ | refine adrawG_k (by decide) ?_ | refine adrawG_e (by decide) ?_) | (with_reducible refine hK _ ?_; clear hK; clear K) | simp only [go_sem, Nat.reduceAdd, Nat.reduceSub, Nat.reduceMul, Nat.reduceLeDiff, Nat.reduceEqDiff, Nat.reduceLT, Int.reduceToNat, ↓reduceIte, reduceCtorEq, Int.reduceLE, Int.reduceLT, Int.reduceNeg, Int.reduceEq, Int.reduceBEq, Int.reduceBNe] | (with_reducible refine And.intro (by omega) ?_) | (refine adrawG_f rfl ?_) | (clear hK; clear K))
    refine ACallV.one Q1 ?_
    repeat (first | (with_reducible first | refine Stp.up ?_ | refine fun (K : AS → Prop) hK => ?_ | refine adrawE_k (by decide) ?_ | refine adrawE_eff (by decide) ?_ | refine abox_plain (by decide) ?_ | refine abox_al ?_ | refine abox_st ?_ | refine adrawG_k (by decide) ?_ | refine adrawG_e (by decide) ?_) | (with_reducible refine hK _ ?_; clear hK; clear K) | simp only [go_sem, Nat.reduceAdd, Nat.reduceSub, Nat.reduceMul, Nat.reduceLeDiff, Nat.reduceEqDiff, Nat.reduceLT, Int.reduceToNat, ↓reduceIte, reduceCtorEq, Int.reduceLE, Int.reduceLT, Int.reduceNeg, Int.reduceEq, Int.reduceBEq, Int.reduceBNe] | (with_reducible refine And.intro (by omega) ?_) | (refine adrawG_f rfl ?_) | (clear hK; clear K))
    refine ACallV.give RN rfl (by simp only [go_sem, Nat.reduceLT, Nat.reduceLeDiff, Nat.reduceEqDiff, Nat.lt_add_one, Nat.zero_lt_one, and_self]) ?_
    have e1 : chkQ ⟨ps', c', rs', ra, sl⟩ = chkQ ⟨ps, cs, rs, ra, sl⟩ := (show SwA c' (rot k2 cs) by rw [hc0]; exact hA).chk (q := ⟨ps, cs, rs, ra, sl⟩) Pp Pr
    have e2 : chkQ ⟨ps.map (mapP (renN perA perB)), cs.map (mapC (renN perA perB)), rs.map (mapO (renN perA perB)), ra, sl⟩ = chkQ ⟨ps, cs, rs, ra, sl⟩ := per_inj.chk ⟨ps, cs, rs, ra, sl⟩
    have e3 : (chkQ ⟨ps, cs, rs, ra, sl⟩ != 2) = qryRight ⟨ps, cs, rs, ra, sl⟩ := by
      unfold chkQ
      cases qryRight ⟨ps, cs, rs, ra, sl⟩
      · rfl
      · simp only [if_true]
        split
        · rfl
        · split
          · split <;> rfl
          · rfl
    have Lr : rs'.length = rs.length := Pr.length_eq
    have o1 : (⟨ps', c', rs', ra, sl⟩ : Qry).ok := (show SwA c' (rot k2 cs) by rw [hc0]; exact hA).ok oq Pp Pr
    have o2 : (⟨ps.map (mapP (renN perA perB)), cs.map (mapC (renN perA perB)), rs.map (mapO (renN perA perB)), ra, sl⟩ : Qry).ok := map_ok per_ok oq
    have Q2 := query14_c _ o1 (by simp only; omega) (by simp only; omega) (by simp only; omega)
    have Q3 := query14_c _ o2 (by simp only [List.length_map]; omega) (by simp only [List.length_map]; omega) (by simp only [List.length_map]; omega)
    rw [e1] at Q2
    rw [e2] at Q3
    simp only [encQ, List.length_map] at Q2 Q3
    have eb : ∀ n : Int, (n == n) = true := fun n => by simp
    repeat (first | (with_reducible first | refine Stp.up ?_ | refine fun (K : AS → Prop) hK => ?_ | refine adrawE_k (by decide) ?_ | refine adrawE_eff (by decide) ?_ | refine abox_plain (by decide) ?_ | refine abox_al ?_ | refine abox_st ?_ | refine adrawG_k (by decide) ?_ | refine adrawG_e (by decide) ?_) | (with_reducible refine hK _ ?_; clear hK; clear K) | simp only [go_sem, Nat.reduceAdd, Nat.reduceSub, Nat.reduceMul, Nat.reduceLeDiff, Nat.reduceEqDiff, Nat.reduceLT, Int.reduceToNat, ↓reduceIte, reduceCtorEq, Int.reduceLE, Int.reduceLT, Int.reduceNeg, Int.reduceEq, Int.reduceBEq, Int.reduceBNe] | (with_reducible refine And.intro (by omega) ?_) | (refine adrawG_f rfl ?_) | (clear hK; clear K))
    rw [hL] at Q2
    refine ACallV.frz Q2 60 rfl (by simp only [go_sem, Nat.reduceLT, Nat.reduceLeDiff, Nat.reduceEqDiff, Nat.lt_add_one, Nat.zero_lt_one, and_self, hL]) rfl ?_
    repeat (first | (with_reducible first | refine Stp.up ?_ | refine fun (K : AS → Prop) hK => ?_ | refine adrawE_k (by decide) ?_ | refine adrawE_eff (by decide) ?_ | refine abox_plain (by decide) ?_ | refine abox_al ?_ | refine abox_st ?_ | refine adrawG_k (by decide) ?_ | refine adrawG_e (by decide) ?_) | (with_reducible refine hK _ ?_; clear hK; clear K) | simp only [go_sem, Nat.reduceAdd, Nat.reduceSub, Nat.reduceMul, Nat.reduceLeDiff, Nat.reduceEqDiff, Nat.reduceLT, Int.reduceToNat, ↓reduceIte, reduceCtorEq, Int.reduceLE, Int.reduceLT, Int.reduceNeg, Int.reduceEq, Int.reduceBEq, Int.reduceBNe, eb] | (with_reducible refine And.intro (by omega) ?_) | (refine adrawG_f rfl ?_) | (clear hK; clear K))
    refine ACallV.one Q3 ?_
    repeat (first | (with_reducible first | refine Stp.up ?_ | refine fun (K : AS → Prop) hK => ?_ | refine adrawE_k (by decide) ?_ | refine adrawE_eff (by decide) ?_ | refine abox_plain (by decide) ?_ | refine abox_al ?_ | refine abox_st ?_ | refine adrawG_k (by decide) ?_ | refine adrawG_e (by decide) ?_) | (with_reducible refine hK _ ?_; clear hK; clear K) | simp only [go_sem, Nat.reduceAdd, Nat.reduceSub, Nat.reduceMul, Nat.reduceLeDiff, Nat.reduceEqDiff, Nat.reduceLT, Int.reduceToNat, ↓reduceIte, reduceCtorEq, Int.reduceLE, Int.reduceLT, Int.reduceNeg, Int.reduceEq, Int.reduceBEq, Int.reduceBNe, eb] | (with_reducible refine And.intro (by omega) ?_) | (refine adrawG_f rfl ?_) | (clear hK; clear K))
    refine ACallV.one R1 ?_
    repeat (first | (with_reducible first | refine Stp.up ?_ | refine fun (K : AS → Prop) hK => ?_ | refine adrawE_k (by decide) ?_ | refine adrawE_eff (by decide) ?_ | refine abox_plain (by decide) ?_ | refine abox_al ?_ | refine abox_st ?_ | refine adrawG_k (by decide) ?_ | refine adrawG_e (by decide) ?_) | (with_reducible refine hK _ ?_; clear hK; clear K) | simp only [go_sem, Nat.reduceAdd, Nat.reduceSub, Nat.reduceMul, Nat.reduceLeDiff, Nat.reduceEqDiff, Nat.reduceLT, Int.reduceToNat, ↓reduceIte, reduceCtorEq, Int.reduceLE, Int.reduceLT, Int.reduceNeg, Int.reduceEq, Int.reduceBEq, Int.reduceBNe, eb, e3] | (with_reducible refine And.intro (by omega) ?_) | (refine adrawG_f rfl ?_) | (clear hK; clear K))
end Go.Proofs.Yteihcfhdhkamfaa
