/- kinescopelaw11.TreeBack: the walk. -/
import Derived.Test.YteihcfhdhkamfaaBLib11
import Derived.Test.YteihcfhdhkamfaaBLens
import Derived.Test.YteihcfhdhkamfaaBCopy
import Derived.Test.YteihcfhdhkamfaaBBackP
import Derived.Test.YteihcfhdhkamfaaBRen2
import Derived.Test.YteihcfhdhkamfaaBPlain
set_option linter.unusedSimpArgs false
set_option linter.unusedVariables false
namespace Go.Proofs.Yteihcfhdhkamfaa
open Go.RowKit

/-- the operands, as the law goes through them -/
def grp (cs : List Cnd) (rs : List Opd) : List (List Opd) := cs.map (fun c => [c.left, c.right]) ++ rs.map (fun o => [o])
theorem grp_len (cs : List Cnd) (rs : List Opd) : (grp cs rs).length = cs.length + rs.length := by simp [grp]
theorem grp_flat (q : Qry) : (grp q.conds q.ret).flatten = qOps q := by
  have : ∀ l : List Opd, (l.map (fun o => [o])).flatten = l := fun l => by induction l <;> simp_all
  simp [grp, qOps, List.flatMap, this]
theorem grp_lo (cs : List Cnd) (rs : List Opd) {i : Nat} (h : i < cs.length) (h' : i < (grp cs rs).length) : (grp cs rs)[i] = [cs[i].left, cs[i].right] := by
  simp only [grp]
  rw [List.getElem_append_left (by simpa using h)]
  simp
theorem grp_hi (cs : List Cnd) (rs : List Opd) {i : Nat} (h : cs.length ≤ i) (h' : i < (grp cs rs).length) (h2 : i - cs.length < rs.length) : (grp cs rs)[i] = [rs[i - cs.length]] := by
  simp only [grp]
  rw [List.getElem_append_right (by simpa using h)]
  simp
/-- the names gathered behind i groups -/
def ownI (base : List ByteArray) (G : List (List Opd)) (i : Nat) : List ByteArray := base ++ ((G.take i).flatten).map Opd.name
theorem ownI_succ (base : List ByteArray) (G : List (List Opd)) {i : Nat} (h : i < G.length) : ownI base G (i + 1) = ownI base G i ++ G[i].map Opd.name := by
  simp only [ownI]
  rw [List.take_succ_eq_append_getElem h, List.flatten_append, List.map_append]
  simp
theorem ownI_all (q : Qry) : ownI (onceL (vnames q.pats) ++ onceL (enames q.pats)) (grp q.conds q.ret) (grp q.conds q.ret).length = ownL q := by
  simp only [ownI, List.take_length, grp_flat, ownL]
theorem ownI_len (base : List ByteArray) (G : List (List Opd)) (i : Nat) (h : ∀ g, g ∈ G → g.length ≤ 2) : (ownI base G i).length ≤ base.length + 2 * G.length := by
  have key : ∀ G : List (List Opd), (∀ g, g ∈ G → g.length ≤ 2) → G.flatten.length ≤ 2 * G.length := by
    intro G
    induction G with
    | nil => intro _; simp
    | cons g G ih =>
      intro h
      have h1 := h g List.mem_cons_self
      have h2 := ih (fun g hg => h g (List.mem_cons_of_mem _ hg))
      simp only [List.flatten_cons, List.length_append, List.length_cons]; omega
  have := key (G.take i) (fun g hg => h g (List.mem_of_mem_take hg))
  simp only [ownI, List.length_append, List.length_map]
  simp only [List.length_take] at this
  omega
theorem wrap_nat' {k : Nat} (h : k < 1000000) : IntKind.i64.wrap (k : Int) = (k : Int) := by
  cases k with
  | zero => rfl
  | succ k => exact wrap_succ (k := k) (by omega)
theorem u8_nat {n : Nat} (h : n < 256) : IntKind.u8.wrap (n : Int) = (n : Int) := by simp [IntKind.wrap, IntKind.signed, IntKind.bits]; omega
theorem zz_app (a b : UInt8) : (⟨#[122, 122]⟩ : ByteArray) ++ ⟨#[a, b]⟩ = ⟨#[122, 122, a, b]⟩ := by
  apply ByteArray.ext
  simp
theorem once_nd : ∀ (l acc : List ByteArray), (acc ++ l).Nodup → l.foldl onceStep acc = acc ++ l
  | [], acc, _ => by simp
  | s :: l, acc, h => by
    have hs : hasB acc s = false := by
      cases hh : hasB acc s with
      | false => rfl
      | true =>
        rw [hasB_iff] at hh
        rw [List.nodup_append] at h
        exact absurd rfl (h.2.2 s hh s List.mem_cons_self)
    rw [List.foldl_cons, onceStep, hs]
    simp only [Bool.false_eq_true, if_false]
    rw [once_nd l (acc ++ [s]) (by simpa using h)]
    simp
theorem once_same {l : List ByteArray} (h : l.Nodup) : onceL l = l := by rw [onceL, once_nd l [] (by simpa using h)]; rfl

set_option maxRecDepth 100000 in
set_option maxHeartbeats 16000000 in
theorem lawTreeBack_c (q : Qry) (turn : Int) (hq : q.small) (oq : q.ok) : Call1 Try.prog 9 [.agg (encQ q), .v (.int .i64 turn)] (.v (.bool true)) := by
  have S1 := size11_c q hq
  have W := awake11_c
  have hown : ownI (onceL (vnames q.pats) ++ onceL (enames q.pats)) (grp q.conds q.ret) (grp q.conds q.ret).length = ownL q := ownI_all q
  simp only [encQ] at S1
  simp only [encQ]
  (refine Call1.enter Try.func9 rfl (by kernel_rfl) (by kernel_rfl) rfl (by first | rfl | (simp only [go_sem, Bool.and_self, Bool.and_true, Bool.true_and])) (by first | rfl | (simp only [go_sem, Bool.and_self, Bool.and_true, Bool.true_and])) ?_; simp only [Try.ntmps9, Try.results9, List.length_cons, List.length_nil, Nat.reduceAdd, Nat.reduceSub, List.replicate_succ, List.replicate_zero, List.cons_append, List.nil_append])
  repeat (first | (with_reducible first | refine Stp.up ?_ | refine fun (K : AS → Prop) hK => ?_ | refine awp_drawE (by decide +kernel) (by kernel_rfl) ?_ | refine awp_draw (by kernel_rfl) (by decide) ?_ | refine awp_boxes (by kernel_rfl) (by kernel_rfl) (by kernel_rfl) ?_ | refine adrawE_k (by decide) ?_ | refine adrawE_eff (by decide) ?_ | refine abox_plain (by decide) ?_ | refine abox_al ?_ | refine abox_st ?_ | refine adrawG_k (by decide) ?_ | refine adrawG_e (by decide) ?_) | (with_reducible refine hK _ ?_; clear hK; clear K) | simp only [go_sem, Nat.reduceAdd, Nat.reduceSub, Nat.reduceMul, Nat.reduceLeDiff, Nat.reduceEqDiff, Nat.reduceLT, Int.reduceToNat, ↓reduceIte, reduceCtorEq, Int.reduceLE, Int.reduceLT, Int.reduceNeg, Int.reduceEq, Int.reduceBEq, Int.reduceBNe] | (with_reducible refine And.intro (by omega) ?_) | (refine adrawG_f rfl ?_) | (clear hK; clear K))
  refine ACallV.one W ?_
  repeat (first | (with_reducible first | refine Stp.up ?_ | refine fun (K : AS → Prop) hK => ?_ | refine awp_drawE (by decide +kernel) (by kernel_rfl) ?_ | refine awp_draw (by kernel_rfl) (by decide) ?_ | refine awp_boxes (by kernel_rfl) (by kernel_rfl) (by kernel_rfl) ?_ | refine adrawE_k (by decide) ?_ | refine adrawE_eff (by decide) ?_ | refine abox_plain (by decide) ?_ | refine abox_al ?_ | refine abox_st ?_ | refine adrawG_k (by decide) ?_ | refine adrawG_e (by decide) ?_) | (with_reducible refine hK _ ?_; clear hK; clear K) | simp only [go_sem, Nat.reduceAdd, Nat.reduceSub, Nat.reduceMul, Nat.reduceLeDiff, Nat.reduceEqDiff, Nat.reduceLT, Int.reduceToNat, ↓reduceIte, reduceCtorEq, Int.reduceLE, Int.reduceLT, Int.reduceNeg, Int.reduceEq, Int.reduceBEq, Int.reduceBNe] | (with_reducible refine And.intro (by omega) ?_) | (refine adrawG_f rfl ?_) | (clear hK; clear K))
  refine ACallV.one S1 ?_
  repeat (first | (with_reducible first | refine Stp.up ?_ | refine fun (K : AS → Prop) hK => ?_ | refine awp_drawE (by decide +kernel) (by kernel_rfl) ?_ | refine awp_draw (by kernel_rfl) (by decide) ?_ | refine awp_boxes (by kernel_rfl) (by kernel_rfl) (by kernel_rfl) ?_ | refine adrawE_k (by decide) ?_ | refine adrawE_eff (by decide) ?_ | refine abox_plain (by decide) ?_ | refine abox_al ?_ | refine abox_st ?_ | refine adrawG_k (by decide) ?_ | refine adrawG_e (by decide) ?_) | (with_reducible refine hK _ ?_; clear hK; clear K) | simp only [go_sem, Nat.reduceAdd, Nat.reduceSub, Nat.reduceMul, Nat.reduceLeDiff, Nat.reduceEqDiff, Nat.reduceLT, Int.reduceToNat, ↓reduceIte, reduceCtorEq, Int.reduceLE, Int.reduceLT, Int.reduceNeg, Int.reduceEq, Int.reduceBEq, Int.reduceBNe] | (with_reducible refine And.intro (by omega) ?_) | (refine adrawG_f rfl ?_) | (clear hK; clear K))
  refine AIf.part (fun h1 => ?_) (fun h1 => ?_)
  · repeat (first | (with_reducible first | refine Stp.up ?_ | refine fun (K : AS → Prop) hK => ?_ | refine awp_drawE (by decide +kernel) (by kernel_rfl) ?_ | refine awp_draw (by kernel_rfl) (by decide) ?_ | refine awp_boxes (by kernel_rfl) (by kernel_rfl) (by kernel_rfl) ?_ | refine adrawE_k (by decide) ?_ | refine adrawE_eff (by decide) ?_ | refine abox_plain (by decide) ?_ | refine abox_al ?_ | refine abox_st ?_ | refine adrawG_k (by decide) ?_ | refine adrawG_e (by decide) ?_) | (with_reducible refine hK _ ?_; clear hK; clear K) | simp only [go_sem, Nat.reduceAdd, Nat.reduceSub, Nat.reduceMul, Nat.reduceLeDiff, Nat.reduceEqDiff, Nat.reduceLT, Int.reduceToNat, ↓reduceIte, reduceCtorEq, Int.reduceLE, Int.reduceLT, Int.reduceNeg, Int.reduceEq, Int.reduceBEq, Int.reduceBNe, h1] | (with_reducible refine And.intro (by omega) ?_) | (refine adrawG_f rfl ?_) | (clear hK; clear K))
  have b1 : szQ q ≤ 400 := by (try simp only [bne_iff_ne, ne_eq, bne_eq_false_iff_eq, beq_iff_eq, beq_eq_false_iff_ne, decide_eq_true_eq, decide_eq_false_iff_not, Bool.not_eq_true', Bool.not_eq_false', Bool.not_eq_eq_eq_not, Bool.not_true, Bool.not_false, Int.natCast_inj, Int.ofNat_lt, Int.ofNat_le] at h1); omega
  have z1 := szQ_spec b1
  have n1 := q_lens b1
  have R1 := treeRight_c q oq
  have V1 := vertices_c q (by have := z1.1; omega)
  have E1 := edges_c q (by have := z1.1; omega)
  have lv : (onceL (vnames q.pats)).length ≤ 800 := by
    have := onceL_len (vnames q.pats); have := vnames_len q.pats; have := z1.1; omega
  have le : (onceL (enames q.pats)).length ≤ 400 := by
    have := onceL_len (enames q.pats); have := enames_len q.pats; have := z1.1; omega
  obtain ⟨ps, cs, rs, ra, sl⟩ := q
  have l2 : cs.length ≤ 1000 := by have := z1.1; simp only at this; omega
  have l3 : rs.length ≤ 1000 := by have := z1.1; simp only at this; omega
  have l1 : ps.length ≤ 1000 := by have := z1.1; simp only at this; omega
  simp only [encQ, strsA] at R1 V1 E1
  simp only at lv le hown
  repeat (first | (with_reducible first | refine Stp.up ?_ | refine fun (K : AS → Prop) hK => ?_ | refine adrawE_k (by decide) ?_ | refine adrawE_eff (by decide) ?_ | refine abox_plain (by decide) ?_ | refine abox_al ?_ | refine abox_st ?_ | refine adrawG_k (by decide) ?_ | refine adrawG_e (by decide) ?_) | (with_reducible refine hK _ ?_; clear hK; clear K) | simp only [go_sem, Nat.reduceAdd, Nat.reduceSub, Nat.reduceMul, Nat.reduceLeDiff, Nat.reduceEqDiff, Nat.reduceLT, Int.reduceToNat, ↓reduceIte, reduceCtorEq, Int.reduceLE, Int.reduceLT, Int.reduceNeg, Int.reduceEq, Int.reduceBEq, Int.reduceBNe, h1] | (with_reducible refine And.intro (by omega) ?_) | (refine adrawG_f rfl ?_) | (clear hK; clear K))
  refine awp_drawG [0, 3, 6] [(1, 0), (2, 0), (4, 0)] (by decide +kernel) (by kernel_rfl) ?_
  repeat (first | (with_reducible first | refine Stp.up ?_ | refine fun (K : AS → Prop) hK => ?_ | refine adrawE_k (by decide) ?_ | refine adrawE_eff (by decide) ?_ | refine abox_plain (by decide) ?_ | refine abox_al ?_ | refine abox_st ?_ | refine adrawG_k (by decide) ?_ | refine adrawG_e (by decide) ?_) | (with_reducible refine hK _ ?_; clear hK; clear K) | simp only [go_sem, Nat.reduceAdd, Nat.reduceSub, Nat.reduceMul, Nat.reduceLeDiff, Nat.reduceEqDiff, Nat.reduceLT, Int.reduceToNat, ↓reduceIte, reduceCtorEq, Int.reduceLE, Int.reduceLT, Int.reduceNeg, Int.reduceEq, Int.reduceBEq, Int.reduceBNe] | (with_reducible refine And.intro (by omega) ?_) | (refine adrawG_f rfl ?_) | (clear hK; clear K))
  refine ACallS.one V1 ?_
  refine ⟨ACallS.one V1 rfl, ?_⟩
  have eT1 : ((onceL (vnames ps)).map encS).take (onceL (vnames ps)).length = (onceL (vnames ps)).map encS := take_all (by simp)
  have eT2 : ((onceL (enames ps)).map encS).take (onceL (enames ps)).length = (onceL (enames ps)).map encS := take_all (by simp)
  repeat (first | (with_reducible first | refine Stp.up ?_ | refine fun (K : AS → Prop) hK => ?_ | refine adrawE_k (by decide) ?_ | refine adrawE_eff (by decide) ?_ | refine abox_plain (by decide) ?_ | refine abox_al ?_ | refine abox_st ?_ | refine adrawG_k (by decide) ?_ | refine adrawG_e (by decide) ?_) | (with_reducible refine hK _ ?_; clear hK; clear K) | simp only [go_sem, Nat.reduceAdd, Nat.reduceSub, Nat.reduceMul, Nat.reduceLeDiff, Nat.reduceEqDiff, Nat.reduceLT, Int.reduceToNat, ↓reduceIte, reduceCtorEq, Int.reduceLE, Int.reduceLT, Int.reduceNeg, Int.reduceEq, Int.reduceBEq, Int.reduceBNe, eT1] | (with_reducible refine And.intro (by omega) ?_) | (refine adrawG_f rfl ?_) | (clear hK; clear K))
  refine ACallS.one E1 ?_
  repeat (first | (with_reducible first | refine Stp.up ?_ | refine fun (K : AS → Prop) hK => ?_ | refine adrawE_k (by decide) ?_ | refine adrawE_eff (by decide) ?_ | refine abox_plain (by decide) ?_ | refine abox_al ?_ | refine abox_st ?_ | refine adrawG_k (by decide) ?_ | refine adrawG_e (by decide) ?_) | (with_reducible refine hK _ ?_; clear hK; clear K) | simp only [go_sem, Nat.reduceAdd, Nat.reduceSub, Nat.reduceMul, Nat.reduceLeDiff, Nat.reduceEqDiff, Nat.reduceLT, Int.reduceToNat, ↓reduceIte, reduceCtorEq, Int.reduceLE, Int.reduceLT, Int.reduceNeg, Int.reduceEq, Int.reduceBEq, Int.reduceBNe, eT2] | (with_reducible refine And.intro (by omega) ?_) | (refine adrawG_f rfl ?_) | (clear hK; clear K))
  have eB : (onceL (vnames ps)).map encS ++ (onceL (enames ps)).map encS = (onceL (vnames ps) ++ onceL (enames ps)).map encS := by rw [List.map_append]
  have eL : (onceL (vnames ps)).length + (onceL (enames ps)).length = (onceL (vnames ps) ++ onceL (enames ps)).length := by simp
  simp only [eB, eL]
  have lb : (onceL (vnames ps) ++ onceL (enames ps)).length ≤ 1200 := by simp; omega
  clear eT1 eT2 eB eL V1 E1 lv le
  generalize hb0 : onceL (vnames ps) ++ onceL (enames ps) = base at hown lb ⊢
  have gL := grp_len cs rs
  have gB : ∀ g, g ∈ grp cs rs → g.length ≤ 2 := fun g hg => by
    simp only [grp, List.mem_append, List.mem_map] at hg
    rcases hg with ⟨c, _, rfl⟩ | ⟨o, _, rfl⟩ <;> simp
  have oL : ∀ i, (ownI base (grp cs rs) i).length ≤ 5200 := fun i => by have := ownI_len base (grp cs rs) i gB; omega
  have e0 : ownI base (grp cs rs) 0 = base := by simp [ownI]
  refine awp_loopO (ι := Nat) 24 (fun i => [(7, .vec 1 (ownI base (grp cs rs) i).length), (8, .v (.int .i64 i)), (9, .undef), (10, .undef)]) (fun i => [some ⟨26, 5, false, [[.slc 8 (ps.map encP) ps.length, .slc 13 (cs.map encC) cs.length, .slc 6 (rs.map encO) rs.length, .v (.int .i64 ra), .v (.int .i64 sl)]]⟩, some ⟨9, 1, true, (ownI base (grp cs rs) i).map encS⟩]) (fun i => cs.length + rs.length - i) (fun i => i ≤ cs.length + rs.length) 0 (Nat.zero_le _) ?_ ?_
  · (refine wk_mk ?_ ?_ ?_ <;> simp only [frm, List.foldl_cons, List.foldl_nil, List.replicate_succ, List.replicate_zero, WkT, WkO, AV.v.injEq, Value.int.injEq, Value.bool.injEq, Value.string.injEq, AV.vec.injEq, AV.ptr.injEq, true_or, or_true, false_or, or_false, AObj.mk.injEq, forall_eq_apply_imp_iff, forall_eq, forall_eq', go_sem, Nat.reduceAdd, Nat.reduceSub, Nat.reduceMul, Nat.reduceLeDiff, Nat.reduceEqDiff, Nat.reduceLT, Int.reduceToNat, ↓reduceIte, reduceCtorEq, Int.reduceLE, Int.reduceLT, Int.reduceNeg, Int.reduceEq, Int.reduceBEq, Int.reduceBNe])
    all_goals first | rfl | (rw [e0]; exact ⟨rfl, rfl⟩) | rw [e0]
  rintro i hi K hK
  have wA : IntKind.i64.wrap ((cs.length : Int) + (rs.length : Int)) = ((cs.length + rs.length : Nat) : Int) := by
    rw [show (cs.length : Int) + (rs.length : Int) = ((cs.length + rs.length : Nat) : Int) by omega]; exact wrap_nat' (by omega)
  repeat (first | (with_reducible first | refine Stp.up ?_ | refine fun (K : AS → Prop) hK => ?_ | refine adrawE_k (by decide) ?_ | refine adrawE_eff (by decide) ?_ | refine abox_plain (by decide) ?_ | refine abox_al ?_ | refine abox_st ?_ | refine adrawG_k (by decide) ?_ | refine adrawG_e (by decide) ?_) | (with_reducible refine hK _ ?_; clear hK; clear K) | simp only [go_sem, Nat.reduceAdd, Nat.reduceSub, Nat.reduceMul, Nat.reduceLeDiff, Nat.reduceEqDiff, Nat.reduceLT, Int.reduceToNat, ↓reduceIte, reduceCtorEq, Int.reduceLE, Int.reduceLT, Int.reduceNeg, Int.reduceEq, Int.reduceBEq, Int.reduceBNe, wA] | (with_reducible refine And.intro (by omega) ?_) | (refine adrawG_f rfl ?_) | (clear hK; clear K))
  refine AIf.part (fun h => ?_) (fun h => ?_)
  · have hlt : i < cs.length + rs.length := by (try simp only [bne_iff_ne, ne_eq, bne_eq_false_iff_eq, beq_iff_eq, beq_eq_false_iff_ne, decide_eq_true_eq, decide_eq_false_iff_not, Bool.not_eq_true', Bool.not_eq_false', Bool.not_eq_eq_eq_not, Bool.not_true, Bool.not_false, Int.natCast_inj, Int.ofNat_lt, Int.ofNat_le] at h); omega
    have eW := wrap_succ (k := i) (by omega)
    have hG : i < (grp cs rs).length := by omega
    have oS := ownI_succ base (grp cs rs) hG
    have gg := gB _ (List.getElem_mem hG)
    repeat (first | (with_reducible first | refine Stp.up ?_ | refine fun (K : AS → Prop) hK => ?_ | refine adrawE_k (by decide) ?_ | refine adrawE_eff (by decide) ?_ | refine abox_plain (by decide) ?_ | refine abox_al ?_ | refine abox_st ?_ | refine adrawG_k (by decide) ?_ | refine adrawG_e (by decide) ?_) | (with_reducible refine hK _ ?_; clear hK; clear K) | simp only [go_sem, Nat.reduceAdd, Nat.reduceSub, Nat.reduceMul, Nat.reduceLeDiff, Nat.reduceEqDiff, Nat.reduceLT, Int.reduceToNat, ↓reduceIte, reduceCtorEq, Int.reduceLE, Int.reduceLT, Int.reduceNeg, Int.reduceEq, Int.reduceBEq, Int.reduceBNe, h] | (with_reducible refine And.intro (by omega) ?_) | (refine adrawG_f rfl ?_) | (clear hK; clear K))
    refine AIf.part (fun h2 => ?_) (fun h2 => ?_)
    · have hlc : i < cs.length := by (try simp only [bne_iff_ne, ne_eq, bne_eq_false_iff_eq, beq_iff_eq, beq_eq_false_iff_ne, decide_eq_true_eq, decide_eq_false_iff_not, Bool.not_eq_true', Bool.not_eq_false', Bool.not_eq_eq_eq_not, Bool.not_true, Bool.not_false, Int.natCast_inj, Int.ofNat_lt, Int.ofNat_le] at h2); omega
      have eG := getD_map encC cs i [] hlc
      have hg := grp_lo cs rs hlc hG
      simp only [encC] at eG
      repeat (first | (with_reducible first | refine Stp.up ?_ | refine fun (K : AS → Prop) hK => ?_ | refine adrawE_k (by decide) ?_ | refine adrawE_eff (by decide) ?_ | refine abox_plain (by decide) ?_ | refine abox_al ?_ | refine abox_st ?_ | refine adrawG_k (by decide) ?_ | refine adrawG_e (by decide) ?_) | (with_reducible refine hK _ ?_; clear hK; clear K) | simp only [go_sem, Nat.reduceAdd, Nat.reduceSub, Nat.reduceMul, Nat.reduceLeDiff, Nat.reduceEqDiff, Nat.reduceLT, Int.reduceToNat, ↓reduceIte, reduceCtorEq, Int.reduceLE, Int.reduceLT, Int.reduceNeg, Int.reduceEq, Int.reduceBEq, Int.reduceBNe, h2] | (with_reducible refine And.intro (by omega) ?_) | (refine adrawG_f rfl ?_) | (clear hK; clear K))
      refine awp_draw (by kernel_rfl) (by decide) ?_
      repeat (first | (with_reducible first | refine Stp.up ?_ | refine fun (K : AS → Prop) hK => ?_ | refine adrawE_k (by decide) ?_ | refine adrawE_eff (by decide) ?_ | refine abox_plain (by decide) ?_ | refine abox_al ?_ | refine abox_st ?_ | refine adrawG_k (by decide) ?_ | refine adrawG_e (by decide) ?_) | (with_reducible refine hK _ ?_; clear hK; clear K) | simp only [go_sem, Nat.reduceAdd, Nat.reduceSub, Nat.reduceMul, Nat.reduceLeDiff, Nat.reduceEqDiff, Nat.reduceLT, Int.reduceToNat, ↓reduceIte, reduceCtorEq, Int.reduceLE, Int.reduceLT, Int.reduceNeg, Int.reduceEq, Int.reduceBEq, Int.reduceBNe, eG] | (with_reducible refine And.intro (by omega) ?_) | (refine adrawG_f rfl ?_) | (clear hK; clear K))
      generalize (grp cs rs)[i] = g at hg oS gg
      refine awp_loopO (ι := Nat) 24 (fun m => [(7, .vec 1 ((ownI base (grp cs rs) i).length + m)), (9, .slc 6 (g.map encO) g.length), (10, .v (.int .i64 m))]) (fun m => [some ⟨26, 5, false, [[.slc 8 (ps.map encP) ps.length, .slc 13 (cs.map encC) cs.length, .slc 6 (rs.map encO) rs.length, .v (.int .i64 ra), .v (.int .i64 sl)]]⟩, some ⟨9, 1, true, (ownI base (grp cs rs) i).map encS ++ (g.take m).map (fun o => [AV.v (.string o.name)])⟩]) (fun m => g.length - m) (fun m => m ≤ g.length) 0 (Nat.zero_le _) ?_ ?_
      · (refine wk_mk ?_ ?_ ?_ <;> simp only [frm, List.foldl_cons, List.foldl_nil, List.replicate_succ, List.replicate_zero, WkT, WkO, AV.v.injEq, Value.int.injEq, Value.bool.injEq, Value.string.injEq, AV.vec.injEq, AV.ptr.injEq, true_or, or_true, false_or, or_false, AObj.mk.injEq, forall_eq_apply_imp_iff, forall_eq, forall_eq', go_sem, Nat.reduceAdd, Nat.reduceSub, Nat.reduceMul, Nat.reduceLeDiff, Nat.reduceEqDiff, Nat.reduceLT, Int.reduceToNat, ↓reduceIte, reduceCtorEq, Int.reduceLE, Int.reduceLT, Int.reduceNeg, Int.reduceEq, Int.reduceBEq, Int.reduceBNe])
        all_goals first | rfl | (rw [hg]; exact ⟨rfl, rfl, rfl⟩) | (simp only [List.take_zero, List.map_nil, List.append_nil, wf_encS, and_self])
      rintro m hm K hK
      repeat (first | (with_reducible first | refine Stp.up ?_ | refine fun (K : AS → Prop) hK => ?_ | refine adrawE_k (by decide) ?_ | refine adrawE_eff (by decide) ?_ | refine abox_plain (by decide) ?_ | refine abox_al ?_ | refine abox_st ?_ | refine adrawG_k (by decide) ?_ | refine adrawG_e (by decide) ?_) | (with_reducible refine hK _ ?_; clear hK; clear K) | simp only [go_sem, Nat.reduceAdd, Nat.reduceSub, Nat.reduceMul, Nat.reduceLeDiff, Nat.reduceEqDiff, Nat.reduceLT, Int.reduceToNat, ↓reduceIte, reduceCtorEq, Int.reduceLE, Int.reduceLT, Int.reduceNeg, Int.reduceEq, Int.reduceBEq, Int.reduceBNe] | (with_reducible refine And.intro (by omega) ?_) | (refine adrawG_f rfl ?_) | (clear hK; clear K))
      refine AIf.part (fun h3 => ?_) (fun h3 => ?_)
      · have hml : m < g.length := by (try simp only [bne_iff_ne, ne_eq, bne_eq_false_iff_eq, beq_iff_eq, beq_eq_false_iff_ne, decide_eq_true_eq, decide_eq_false_iff_not, Bool.not_eq_true', Bool.not_eq_false', Bool.not_eq_eq_eq_not, Bool.not_true, Bool.not_false, Int.natCast_inj, Int.ofNat_lt, Int.ofNat_le] at h3); omega
        have eW2 := wrap_succ (k := m) (by omega)
        have eG2 := getD_map encO g m [] hml
        have eT := take_map_succ (fun o : Opd => [AV.v (.string o.name)]) g m hml
        have eN : ((ownI base (grp cs rs) i).map encS ++ (g.take m).map (fun o => [AV.v (.string o.name)])).length = (ownI base (grp cs rs) i).length + m := by simp; omega
        have ll := oL i
        simp only [encO] at eG2
        repeat (first | (with_reducible first | refine Stp.up ?_ | refine fun (K : AS → Prop) hK => ?_ | refine adrawE_k (by decide) ?_ | refine adrawE_eff (by decide) ?_ | refine abox_plain (by decide) ?_ | refine abox_al ?_ | refine abox_st ?_ | refine adrawG_k (by decide) ?_ | refine adrawG_e (by decide) ?_) | (with_reducible refine hK _ ?_; clear hK; clear K) | simp only [go_sem, Nat.reduceAdd, Nat.reduceSub, Nat.reduceMul, Nat.reduceLeDiff, Nat.reduceEqDiff, Nat.reduceLT, Int.reduceToNat, ↓reduceIte, reduceCtorEq, Int.reduceLE, Int.reduceLT, Int.reduceNeg, Int.reduceEq, Int.reduceBEq, Int.reduceBNe, h3, eG2, eN, eW2] | (with_reducible refine And.intro (by omega) ?_) | (refine adrawG_f rfl ?_) | (clear hK; clear K))
        refine LNext.mk (m + 1) (by omega) (by omega) (by (refine wk_mk ?_ ?_ ?_ <;> simp only [frm, List.foldl_cons, List.foldl_nil, List.replicate_succ, List.replicate_zero, WkT, WkO, AV.v.injEq, Value.int.injEq, Value.bool.injEq, Value.string.injEq, AV.vec.injEq, AV.ptr.injEq, true_or, or_true, false_or, or_false, AObj.mk.injEq, forall_eq_apply_imp_iff, forall_eq, forall_eq', go_sem, Nat.reduceAdd, Nat.reduceSub, Nat.reduceMul, Nat.reduceLeDiff, Nat.reduceEqDiff, Nat.reduceLT, Int.reduceToNat, ↓reduceIte, reduceCtorEq, Int.reduceLE, Int.reduceLT, Int.reduceNeg, Int.reduceEq, Int.reduceBEq, Int.reduceBNe]); all_goals first | omega | exact ⟨by rw [eT], wfR_map _ (fun _ => rfl) _⟩)
      · have hml : m = g.length := by (try simp only [bne_iff_ne, ne_eq, bne_eq_false_iff_eq, beq_iff_eq, beq_eq_false_iff_ne, decide_eq_true_eq, decide_eq_false_iff_not, Bool.not_eq_true', Bool.not_eq_false', Bool.not_eq_eq_eq_not, Bool.not_true, Bool.not_false, Int.natCast_inj, Int.ofNat_lt, Int.ofNat_le] at h3); omega
        have eA : (ownI base (grp cs rs) i).map encS ++ (g.take g.length).map (fun o => [AV.v (.string o.name)]) = (ownI base (grp cs rs) (i + 1)).map encS := by rw [oS, List.take_length, List.map_append, List.map_map]; rfl
        have eN : (ownI base (grp cs rs) i).length + g.length = (ownI base (grp cs rs) (i + 1)).length := by rw [oS]; simp
        simp only [hml, eA, eN]
        repeat (first | (with_reducible first | refine Stp.up ?_ | refine fun (K : AS → Prop) hK => ?_ | refine adrawE_k (by decide) ?_ | refine adrawE_eff (by decide) ?_ | refine abox_plain (by decide) ?_ | refine abox_al ?_ | refine abox_st ?_ | refine adrawG_k (by decide) ?_ | refine adrawG_e (by decide) ?_) | (with_reducible refine hK _ ?_; clear hK; clear K) | simp only [go_sem, Nat.reduceAdd, Nat.reduceSub, Nat.reduceMul, Nat.reduceLeDiff, Nat.reduceEqDiff, Nat.reduceLT, Int.reduceToNat, ↓reduceIte, reduceCtorEq, Int.reduceLE, Int.reduceLT, Int.reduceNeg, Int.reduceEq, Int.reduceBEq, Int.reduceBNe, h3, eW] | (with_reducible refine And.intro (by omega) ?_) | (refine adrawG_f rfl ?_) | (clear hK; clear K))
        exact LNext.mk (i + 1) (by omega) (by omega) (by (refine wk_mk ?_ ?_ ?_ <;> simp only [frm, List.foldl_cons, List.foldl_nil, List.replicate_succ, List.replicate_zero, WkT, WkO, AV.v.injEq, Value.int.injEq, Value.bool.injEq, Value.string.injEq, AV.vec.injEq, AV.ptr.injEq, true_or, or_true, false_or, or_false, AObj.mk.injEq, forall_eq_apply_imp_iff, forall_eq, forall_eq', go_sem, Nat.reduceAdd, Nat.reduceSub, Nat.reduceMul, Nat.reduceLeDiff, Nat.reduceEqDiff, Nat.reduceLT, Int.reduceToNat, ↓reduceIte, reduceCtorEq, Int.reduceLE, Int.reduceLT, Int.reduceNeg, Int.reduceEq, Int.reduceBEq, Int.reduceBNe]))
    · have hge : cs.length ≤ i := by (try simp only [bne_iff_ne, ne_eq, bne_eq_false_iff_eq, beq_iff_eq, beq_eq_false_iff_ne, decide_eq_true_eq, decide_eq_false_iff_not, Bool.not_eq_true', Bool.not_eq_false', Bool.not_eq_eq_eq_not, Bool.not_true, Bool.not_false, Int.natCast_inj, Int.ofNat_lt, Int.ofNat_le] at h2); omega
      have hlr : i - cs.length < rs.length := by omega
      have hg := grp_hi cs rs hge hG hlr
      have eG := getD_map encO rs (i - cs.length) [] hlr
      have wS : IntKind.i64.wrap ((i : Int) - (cs.length : Int)) = ((i - cs.length : Nat) : Int) := by
        rw [show (i : Int) - (cs.length : Int) = ((i - cs.length : Nat) : Int) by omega]; exact wrap_nat' (by omega)
      simp only [encO] at eG
      repeat ((fail_if_success (with_reducible refine stopR (i := 14) ?_)); first | (with_reducible first | refine Stp.up ?_ | refine fun (K : AS → Prop) hK => ?_ | refine adrawE_k (by decide) ?_ | refine adrawE_eff (by decide) ?_ | refine abox_plain (by decide) ?_ | refine abox_al ?_ | refine abox_st ?_ | refine adrawG_k (by decide) ?_ | refine adrawG_e (by decide) ?_) | (with_reducible refine hK _ ?_; clear hK; clear K) | simp only [go_sem, Nat.reduceAdd, Nat.reduceSub, Nat.reduceMul, Nat.reduceLeDiff, Nat.reduceEqDiff, Nat.reduceLT, Int.reduceToNat, ↓reduceIte, reduceCtorEq, Int.reduceLE, Int.reduceLT, Int.reduceNeg, Int.reduceEq, Int.reduceBEq, Int.reduceBNe, h2, wS, eG] | (with_reducible refine And.intro (by omega) ?_) | (refine adrawG_f rfl ?_) | (clear hK; clear K))
      refine awp_turn (turn_free 9 2 rfl rfl rfl rfl) (by kernel_rfl) ?_
      simp only [List.set_cons_zero, List.set_cons_succ]
      repeat (first | (with_reducible first | refine Stp.up ?_ | refine fun (K : AS → Prop) hK => ?_ | refine adrawE_k (by decide) ?_ | refine adrawE_eff (by decide) ?_ | refine abox_plain (by decide) ?_ | refine abox_al ?_ | refine abox_st ?_ | refine adrawG_k (by decide) ?_ | refine adrawG_e (by decide) ?_) | (with_reducible refine hK _ ?_; clear hK; clear K) | simp only [go_sem, Nat.reduceAdd, Nat.reduceSub, Nat.reduceMul, Nat.reduceLeDiff, Nat.reduceEqDiff, Nat.reduceLT, Int.reduceToNat, ↓reduceIte, reduceCtorEq, Int.reduceLE, Int.reduceLT, Int.reduceNeg, Int.reduceEq, Int.reduceBEq, Int.reduceBNe] | (with_reducible refine And.intro (by omega) ?_) | (refine adrawG_f rfl ?_) | (clear hK; clear K))
      generalize (grp cs rs)[i] = g at hg oS gg
      refine awp_loopO (ι := Nat) 24 (fun m => [(7, .vec 1 ((ownI base (grp cs rs) i).length + m)), (9, .slc 6 (g.map encO) g.length), (10, .v (.int .i64 m))]) (fun m => [some ⟨26, 5, false, [[.slc 8 (ps.map encP) ps.length, .slc 13 (cs.map encC) cs.length, .slc 6 (rs.map encO) rs.length, .v (.int .i64 ra), .v (.int .i64 sl)]]⟩, some ⟨9, 1, true, (ownI base (grp cs rs) i).map encS ++ (g.take m).map (fun o => [AV.v (.string o.name)])⟩]) (fun m => g.length - m) (fun m => m ≤ g.length) 0 (Nat.zero_le _) ?_ ?_
      · (refine wk_mk ?_ ?_ ?_ <;> simp only [frm, List.foldl_cons, List.foldl_nil, List.replicate_succ, List.replicate_zero, WkT, WkO, AV.v.injEq, Value.int.injEq, Value.bool.injEq, Value.string.injEq, AV.vec.injEq, AV.ptr.injEq, true_or, or_true, false_or, or_false, AObj.mk.injEq, forall_eq_apply_imp_iff, forall_eq, forall_eq', go_sem, Nat.reduceAdd, Nat.reduceSub, Nat.reduceMul, Nat.reduceLeDiff, Nat.reduceEqDiff, Nat.reduceLT, Int.reduceToNat, ↓reduceIte, reduceCtorEq, Int.reduceLE, Int.reduceLT, Int.reduceNeg, Int.reduceEq, Int.reduceBEq, Int.reduceBNe])
        all_goals first | rfl | (rw [hg]; exact ⟨rfl, rfl, rfl⟩) | (simp only [List.take_zero, List.map_nil, List.append_nil, wf_encS, and_self])
      rintro m hm K hK
      repeat (first | (with_reducible first | refine Stp.up ?_ | refine fun (K : AS → Prop) hK => ?_ | refine adrawE_k (by decide) ?_ | refine adrawE_eff (by decide) ?_ | refine abox_plain (by decide) ?_ | refine abox_al ?_ | refine abox_st ?_ | refine adrawG_k (by decide) ?_ | refine adrawG_e (by decide) ?_) | (with_reducible refine hK _ ?_; clear hK; clear K) | simp only [go_sem, Nat.reduceAdd, Nat.reduceSub, Nat.reduceMul, Nat.reduceLeDiff, Nat.reduceEqDiff, Nat.reduceLT, Int.reduceToNat, ↓reduceIte, reduceCtorEq, Int.reduceLE, Int.reduceLT, Int.reduceNeg, Int.reduceEq, Int.reduceBEq, Int.reduceBNe] | (with_reducible refine And.intro (by omega) ?_) | (refine adrawG_f rfl ?_) | (clear hK; clear K))
      refine AIf.part (fun h3 => ?_) (fun h3 => ?_)
      · have hml : m < g.length := by (try simp only [bne_iff_ne, ne_eq, bne_eq_false_iff_eq, beq_iff_eq, beq_eq_false_iff_ne, decide_eq_true_eq, decide_eq_false_iff_not, Bool.not_eq_true', Bool.not_eq_false', Bool.not_eq_eq_eq_not, Bool.not_true, Bool.not_false, Int.natCast_inj, Int.ofNat_lt, Int.ofNat_le] at h3); omega
        have eW2 := wrap_succ (k := m) (by omega)
        have eG2 := getD_map encO g m [] hml
        have eT := take_map_succ (fun o : Opd => [AV.v (.string o.name)]) g m hml
        have eN : ((ownI base (grp cs rs) i).map encS ++ (g.take m).map (fun o => [AV.v (.string o.name)])).length = (ownI base (grp cs rs) i).length + m := by simp; omega
        have ll := oL i
        simp only [encO] at eG2
        repeat (first | (with_reducible first | refine Stp.up ?_ | refine fun (K : AS → Prop) hK => ?_ | refine adrawE_k (by decide) ?_ | refine adrawE_eff (by decide) ?_ | refine abox_plain (by decide) ?_ | refine abox_al ?_ | refine abox_st ?_ | refine adrawG_k (by decide) ?_ | refine adrawG_e (by decide) ?_) | (with_reducible refine hK _ ?_; clear hK; clear K) | simp only [go_sem, Nat.reduceAdd, Nat.reduceSub, Nat.reduceMul, Nat.reduceLeDiff, Nat.reduceEqDiff, Nat.reduceLT, Int.reduceToNat, ↓reduceIte, reduceCtorEq, Int.reduceLE, Int.reduceLT, Int.reduceNeg, Int.reduceEq, Int.reduceBEq, Int.reduceBNe, h3, eG2, eN, eW2] | (with_reducible refine And.intro (by omega) ?_) | (refine adrawG_f rfl ?_) | (clear hK; clear K))
        refine LNext.mk (m + 1) (by omega) (by omega) (by (refine wk_mk ?_ ?_ ?_ <;> simp only [frm, List.foldl_cons, List.foldl_nil, List.replicate_succ, List.replicate_zero, WkT, WkO, AV.v.injEq, Value.int.injEq, Value.bool.injEq, Value.string.injEq, AV.vec.injEq, AV.ptr.injEq, true_or, or_true, false_or, or_false, AObj.mk.injEq, forall_eq_apply_imp_iff, forall_eq, forall_eq', go_sem, Nat.reduceAdd, Nat.reduceSub, Nat.reduceMul, Nat.reduceLeDiff, Nat.reduceEqDiff, Nat.reduceLT, Int.reduceToNat, ↓reduceIte, reduceCtorEq, Int.reduceLE, Int.reduceLT, Int.reduceNeg, Int.reduceEq, Int.reduceBEq, Int.reduceBNe]); all_goals first | omega | exact ⟨by rw [eT], wfR_map _ (fun _ => rfl) _⟩)
      · have hml : m = g.length := by (try simp only [bne_iff_ne, ne_eq, bne_eq_false_iff_eq, beq_iff_eq, beq_eq_false_iff_ne, decide_eq_true_eq, decide_eq_false_iff_not, Bool.not_eq_true', Bool.not_eq_false', Bool.not_eq_eq_eq_not, Bool.not_true, Bool.not_false, Int.natCast_inj, Int.ofNat_lt, Int.ofNat_le] at h3); omega
        have eA : (ownI base (grp cs rs) i).map encS ++ (g.take g.length).map (fun o => [AV.v (.string o.name)]) = (ownI base (grp cs rs) (i + 1)).map encS := by rw [oS, List.take_length, List.map_append, List.map_map]; rfl
        have eN : (ownI base (grp cs rs) i).length + g.length = (ownI base (grp cs rs) (i + 1)).length := by rw [oS]; simp
        simp only [hml, eA, eN]
        repeat (first | (with_reducible first | refine Stp.up ?_ | refine fun (K : AS → Prop) hK => ?_ | refine adrawE_k (by decide) ?_ | refine adrawE_eff (by decide) ?_ | refine abox_plain (by decide) ?_ | refine abox_al ?_ | refine abox_st ?_ | refine adrawG_k (by decide) ?_ | refine adrawG_e (by decide) ?_) | (with_reducible refine hK _ ?_; clear hK; clear K) | simp only [go_sem, Nat.reduceAdd, Nat.reduceSub, Nat.reduceMul, Nat.reduceLeDiff, Nat.reduceEqDiff, Nat.reduceLT, Int.reduceToNat, ↓reduceIte, reduceCtorEq, Int.reduceLE, Int.reduceLT, Int.reduceNeg, Int.reduceEq, Int.reduceBEq, Int.reduceBNe, h3, eW] | (with_reducible refine And.intro (by omega) ?_) | (refine adrawG_f rfl ?_) | (clear hK; clear K))
        exact LNext.mk (i + 1) (by omega) (by omega) (by (refine wk_mk ?_ ?_ ?_ <;> simp only [frm, List.foldl_cons, List.foldl_nil, List.replicate_succ, List.replicate_zero, WkT, WkO, AV.v.injEq, Value.int.injEq, Value.bool.injEq, Value.string.injEq, AV.vec.injEq, AV.ptr.injEq, true_or, or_true, false_or, or_false, AObj.mk.injEq, forall_eq_apply_imp_iff, forall_eq, forall_eq', go_sem, Nat.reduceAdd, Nat.reduceSub, Nat.reduceMul, Nat.reduceLeDiff, Nat.reduceEqDiff, Nat.reduceLT, Int.reduceToNat, ↓reduceIte, reduceCtorEq, Int.reduceLE, Int.reduceLT, Int.reduceNeg, Int.reduceEq, Int.reduceBEq, Int.reduceBNe]))
  have hi' : i = (grp cs rs).length := by (try simp only [bne_iff_ne, ne_eq, bne_eq_false_iff_eq, beq_iff_eq, beq_eq_false_iff_ne, decide_eq_true_eq, decide_eq_false_iff_not, Bool.not_eq_true', Bool.not_eq_false', Bool.not_eq_eq_eq_not, Bool.not_true, Bool.not_false, Int.natCast_inj, Int.ofNat_lt, Int.ofNat_le] at h); omega
  simp only [hi', hown]
  have loL := oL i
  rw [hi', hown] at loL
  generalize hO : ownL ⟨ps, cs, rs, ra, sl⟩ = own at hown loL ⊢
  repeat (first | (with_reducible first | refine Stp.up ?_ | refine fun (K : AS → Prop) hK => ?_ | refine adrawE_k (by decide) ?_ | refine adrawE_eff (by decide) ?_ | refine abox_plain (by decide) ?_ | refine abox_al ?_ | refine abox_st ?_ | refine adrawG_k (by decide) ?_ | refine adrawG_e (by decide) ?_) | (with_reducible refine hK _ ?_; clear hK; clear K) | simp only [go_sem, Nat.reduceAdd, Nat.reduceSub, Nat.reduceMul, Nat.reduceLeDiff, Nat.reduceEqDiff, Nat.reduceLT, Int.reduceToNat, ↓reduceIte, reduceCtorEq, Int.reduceLE, Int.reduceLT, Int.reduceNeg, Int.reduceEq, Int.reduceBEq, Int.reduceBNe, h] | (with_reducible refine And.intro (by omega) ?_) | (refine adrawG_f rfl ?_) | (clear hK; clear K))
  have fL : ∀ i, (frmL (own.take i)).length ≤ 5200 := fun i => by have := frmL_len (own.take i); simp only [List.length_take] at this; omega
  refine awp_loopV (ι := Nat) 5 9 1 rfl (by omega) 24 (fun i => [(5, .vec 2 (frmL (own.take i)).length), (11, .v (.int .i64 i))]) (fun i => [some ⟨26, 5, false, [[.slc 8 (ps.map encP) ps.length, .slc 13 (cs.map encC) cs.length, .slc 6 (rs.map encO) rs.length, .v (.int .i64 ra), .v (.int .i64 sl)]]⟩, some ⟨9, 1, true, own.map encS⟩, some ⟨9, 1, true, (frmL (own.take i)).map encS⟩]) (fun i => own.length - i) (fun i => i ≤ own.length) 0 (Nat.zero_le _) ?_ ?_
  · (refine wk_mk ?_ ?_ ?_ <;> simp only [frm, List.foldl_cons, List.foldl_nil, List.replicate_succ, List.replicate_zero, WkT, WkO, AV.v.injEq, Value.int.injEq, Value.bool.injEq, Value.string.injEq, AV.vec.injEq, AV.ptr.injEq, true_or, or_true, false_or, or_false, AObj.mk.injEq, forall_eq_apply_imp_iff, forall_eq, forall_eq', go_sem, Nat.reduceAdd, Nat.reduceSub, Nat.reduceMul, Nat.reduceLeDiff, Nat.reduceEqDiff, Nat.reduceLT, Int.reduceToNat, ↓reduceIte, reduceCtorEq, Int.reduceLE, Int.reduceLT, Int.reduceNeg, Int.reduceEq, Int.reduceBEq, Int.reduceBNe])
    all_goals first | rfl | exact ⟨rfl, rfl⟩
  clear h hi' hi
  rintro i hi K hK
  repeat (first | (with_reducible first | refine Stp.up ?_ | refine fun (K : AS → Prop) hK => ?_ | refine adrawE_k (by decide) ?_ | refine adrawE_eff (by decide) ?_ | refine abox_plain (by decide) ?_ | refine abox_al ?_ | refine abox_st ?_ | refine adrawG_k (by decide) ?_ | refine adrawG_e (by decide) ?_) | (with_reducible refine hK _ ?_; clear hK; clear K) | simp only [go_sem, Nat.reduceAdd, Nat.reduceSub, Nat.reduceMul, Nat.reduceLeDiff, Nat.reduceEqDiff, Nat.reduceLT, Int.reduceToNat, ↓reduceIte, reduceCtorEq, Int.reduceLE, Int.reduceLT, Int.reduceNeg, Int.reduceEq, Int.reduceBEq, Int.reduceBNe] | (with_reducible refine And.intro (by omega) ?_) | (refine adrawG_f rfl ?_) | (clear hK; clear K))
  refine AIf.part (fun h => ?_) (fun h => ?_)
  · have hlt : i < own.length := by (try simp only [bne_iff_ne, ne_eq, bne_eq_false_iff_eq, beq_iff_eq, beq_eq_false_iff_ne, decide_eq_true_eq, decide_eq_false_iff_not, Bool.not_eq_true', Bool.not_eq_false', Bool.not_eq_eq_eq_not, Bool.not_true, Bool.not_false, Int.natCast_inj, Int.ofNat_lt, Int.ofNat_le] at h); omega
    have eW := wrap_succ (k := i) (by omega)
    have eG := getD_map encS own i [] hlt
    have fS := frmL_succ hlt
    have fl := fL i
    have H := has11_c (frmL (own.take i)) own[i]
    simp only [encS] at eG
    simp only [strsA] at H
    repeat (first | (with_reducible first | refine Stp.up ?_ | refine fun (K : AS → Prop) hK => ?_ | refine adrawE_k (by decide) ?_ | refine adrawE_eff (by decide) ?_ | refine abox_plain (by decide) ?_ | refine abox_al ?_ | refine abox_st ?_ | refine adrawG_k (by decide) ?_ | refine adrawG_e (by decide) ?_) | (with_reducible refine hK _ ?_; clear hK; clear K) | simp only [go_sem, Nat.reduceAdd, Nat.reduceSub, Nat.reduceMul, Nat.reduceLeDiff, Nat.reduceEqDiff, Nat.reduceLT, Int.reduceToNat, ↓reduceIte, reduceCtorEq, Int.reduceLE, Int.reduceLT, Int.reduceNeg, Int.reduceEq, Int.reduceBEq, Int.reduceBNe, h, eG] | (with_reducible refine And.intro (by omega) ?_) | (refine adrawG_f rfl ?_) | (clear hK; clear K))
    refine AIf.part (fun h2 => ?_) (fun h2 => ?_)
    · have hno : noB own[i] = true := by rw [toList_no]; exact h2
      have fS : frmL (own.take (i + 1)) = frmL (own.take i) := by rw [fS, frmStep, if_pos hno]
      repeat (first | (with_reducible first | refine Stp.up ?_ | refine fun (K : AS → Prop) hK => ?_ | refine adrawE_k (by decide) ?_ | refine adrawE_eff (by decide) ?_ | refine abox_plain (by decide) ?_ | refine abox_al ?_ | refine abox_st ?_ | refine adrawG_k (by decide) ?_ | refine adrawG_e (by decide) ?_) | (with_reducible refine hK _ ?_; clear hK; clear K) | simp only [go_sem, Nat.reduceAdd, Nat.reduceSub, Nat.reduceMul, Nat.reduceLeDiff, Nat.reduceEqDiff, Nat.reduceLT, Int.reduceToNat, ↓reduceIte, reduceCtorEq, Int.reduceLE, Int.reduceLT, Int.reduceNeg, Int.reduceEq, Int.reduceBEq, Int.reduceBNe, h2, eW, Go.undef] | (with_reducible refine And.intro (by omega) ?_) | (refine adrawG_f rfl ?_) | (clear hK; clear K))
      exact LNext.mk (i + 1) (by omega) (by omega) (by (refine wk_mk ?_ ?_ ?_ <;> simp only [frm, List.foldl_cons, List.foldl_nil, List.replicate_succ, List.replicate_zero, WkT, WkO, AV.v.injEq, Value.int.injEq, Value.bool.injEq, Value.string.injEq, AV.vec.injEq, AV.ptr.injEq, true_or, or_true, false_or, or_false, AObj.mk.injEq, forall_eq_apply_imp_iff, forall_eq, forall_eq', go_sem, Nat.reduceAdd, Nat.reduceSub, Nat.reduceMul, Nat.reduceLeDiff, Nat.reduceEqDiff, Nat.reduceLT, Int.reduceToNat, ↓reduceIte, reduceCtorEq, Int.reduceLE, Int.reduceLT, Int.reduceNeg, Int.reduceEq, Int.reduceBEq, Int.reduceBNe]); all_goals first | rw [fS] | exact ⟨by rw [fS], by rw [fS]; simp only [wf_encS]⟩)
    · have hno : noB own[i] = false := by rw [toList_no]; exact h2
      repeat (first | (with_reducible first | refine Stp.up ?_ | refine fun (K : AS → Prop) hK => ?_ | refine adrawE_k (by decide) ?_ | refine adrawE_eff (by decide) ?_ | refine abox_plain (by decide) ?_ | refine abox_al ?_ | refine abox_st ?_ | refine adrawG_k (by decide) ?_ | refine adrawG_e (by decide) ?_) | (with_reducible refine hK _ ?_; clear hK; clear K) | simp only [go_sem, Nat.reduceAdd, Nat.reduceSub, Nat.reduceMul, Nat.reduceLeDiff, Nat.reduceEqDiff, Nat.reduceLT, Int.reduceToNat, ↓reduceIte, reduceCtorEq, Int.reduceLE, Int.reduceLT, Int.reduceNeg, Int.reduceEq, Int.reduceBEq, Int.reduceBNe, h2, eG] | (with_reducible refine And.intro (by omega) ?_) | (refine adrawG_f rfl ?_) | (clear hK; clear K))
      refine ACallV.frz H 8 rfl (by simp only [go_sem, Nat.reduceLT, Nat.reduceLeDiff, Nat.reduceEqDiff, Nat.lt_add_one, Nat.zero_lt_one, and_self]) rfl ?_
      cases hh : hasB (frmL (own.take i)) own[i]
      · have fS : frmL (own.take (i + 1)) = frmL (own.take i) ++ [own[i]] := by rw [fS, frmStep, hno, hh]; rfl
        have eLn : (frmL (own.take (i + 1))).length = (frmL (own.take i)).length + 1 := by rw [fS]; simp
        have eM : (frmL (own.take (i + 1))).map encS = (frmL (own.take i)).map encS ++ [[.v (.string own[i])]] := by rw [fS]; simp [encS]
        repeat (first | (with_reducible first | refine Stp.up ?_ | refine fun (K : AS → Prop) hK => ?_ | refine adrawE_k (by decide) ?_ | refine adrawE_eff (by decide) ?_ | refine abox_plain (by decide) ?_ | refine abox_al ?_ | refine abox_st ?_ | refine adrawG_k (by decide) ?_ | refine adrawG_e (by decide) ?_) | (with_reducible refine hK _ ?_; clear hK; clear K) | simp only [go_sem, Nat.reduceAdd, Nat.reduceSub, Nat.reduceMul, Nat.reduceLeDiff, Nat.reduceEqDiff, Nat.reduceLT, Int.reduceToNat, ↓reduceIte, reduceCtorEq, Int.reduceLE, Int.reduceLT, Int.reduceNeg, Int.reduceEq, Int.reduceBEq, Int.reduceBNe, eG, eW] | (with_reducible refine And.intro (by omega) ?_) | (refine adrawG_f rfl ?_) | (clear hK; clear K))
        exact LNext.mk (i + 1) (by omega) (by omega) (by (refine wk_mk ?_ ?_ ?_ <;> simp only [frm, List.foldl_cons, List.foldl_nil, List.replicate_succ, List.replicate_zero, WkT, WkO, AV.v.injEq, Value.int.injEq, Value.bool.injEq, Value.string.injEq, AV.vec.injEq, AV.ptr.injEq, true_or, or_true, false_or, or_false, AObj.mk.injEq, forall_eq_apply_imp_iff, forall_eq, forall_eq', go_sem, Nat.reduceAdd, Nat.reduceSub, Nat.reduceMul, Nat.reduceLeDiff, Nat.reduceEqDiff, Nat.reduceLT, Int.reduceToNat, ↓reduceIte, reduceCtorEq, Int.reduceLE, Int.reduceLT, Int.reduceNeg, Int.reduceEq, Int.reduceBEq, Int.reduceBNe]); all_goals first | exact eLn.symm | exact ⟨eLn.symm, rfl⟩ | exact eM.symm | exact ⟨eM.symm, by simp only [wf_encS]⟩)
      · have fS : frmL (own.take (i + 1)) = frmL (own.take i) := by rw [fS, frmStep, hno, hh]; rfl
        repeat (first | (with_reducible first | refine Stp.up ?_ | refine fun (K : AS → Prop) hK => ?_ | refine adrawE_k (by decide) ?_ | refine adrawE_eff (by decide) ?_ | refine abox_plain (by decide) ?_ | refine abox_al ?_ | refine abox_st ?_ | refine adrawG_k (by decide) ?_ | refine adrawG_e (by decide) ?_) | (with_reducible refine hK _ ?_; clear hK; clear K) | simp only [go_sem, Nat.reduceAdd, Nat.reduceSub, Nat.reduceMul, Nat.reduceLeDiff, Nat.reduceEqDiff, Nat.reduceLT, Int.reduceToNat, ↓reduceIte, reduceCtorEq, Int.reduceLE, Int.reduceLT, Int.reduceNeg, Int.reduceEq, Int.reduceBEq, Int.reduceBNe, eG, eW] | (with_reducible refine And.intro (by omega) ?_) | (refine adrawG_f rfl ?_) | (clear hK; clear K))
        exact LNext.mk (i + 1) (by omega) (by omega) (by (refine wk_mk ?_ ?_ ?_ <;> simp only [frm, List.foldl_cons, List.foldl_nil, List.replicate_succ, List.replicate_zero, WkT, WkO, AV.v.injEq, Value.int.injEq, Value.bool.injEq, Value.string.injEq, AV.vec.injEq, AV.ptr.injEq, true_or, or_true, false_or, or_false, AObj.mk.injEq, forall_eq_apply_imp_iff, forall_eq, forall_eq', go_sem, Nat.reduceAdd, Nat.reduceSub, Nat.reduceMul, Nat.reduceLeDiff, Nat.reduceEqDiff, Nat.reduceLT, Int.reduceToNat, ↓reduceIte, reduceCtorEq, Int.reduceLE, Int.reduceLT, Int.reduceNeg, Int.reduceEq, Int.reduceBEq, Int.reduceBNe]); all_goals first | rw [fS] | exact ⟨by rw [fS], by rw [fS]; simp only [wf_encS]⟩)
  have hi' : i = own.length := by (try simp only [bne_iff_ne, ne_eq, bne_eq_false_iff_eq, beq_iff_eq, beq_eq_false_iff_ne, decide_eq_true_eq, decide_eq_false_iff_not, Bool.not_eq_true', Bool.not_eq_false', Bool.not_eq_eq_eq_not, Bool.not_true, Bool.not_false, Int.natCast_inj, Int.ofNat_lt, Int.ofNat_le] at h); omega
  simp only [hi', List.take_length]
  have fn := frmL_nd own
  have fm := frmL_mem own
  have fl := fL own.length
  rw [List.take_length] at fl
  generalize frmL own = F at fn fm fl ⊢
  repeat (first | (with_reducible first | refine Stp.up ?_ | refine fun (K : AS → Prop) hK => ?_ | refine adrawE_k (by decide) ?_ | refine adrawE_eff (by decide) ?_ | refine abox_plain (by decide) ?_ | refine abox_al ?_ | refine abox_st ?_ | refine adrawG_k (by decide) ?_ | refine adrawG_e (by decide) ?_) | (with_reducible refine hK _ ?_; clear hK; clear K) | simp only [go_sem, Nat.reduceAdd, Nat.reduceSub, Nat.reduceMul, Nat.reduceLeDiff, Nat.reduceEqDiff, Nat.reduceLT, Int.reduceToNat, ↓reduceIte, reduceCtorEq, Int.reduceLE, Int.reduceLT, Int.reduceNeg, Int.reduceEq, Int.reduceBEq, Int.reduceBNe, h] | (with_reducible refine And.intro (by omega) ?_) | (refine adrawG_f rfl ?_) | (clear hK; clear K))
  refine AIf.part (fun h2 => ?_) (fun h2 => ?_)
  · repeat (first | (with_reducible first | refine Stp.up ?_ | refine fun (K : AS → Prop) hK => ?_ | refine adrawE_k (by decide) ?_ | refine adrawE_eff (by decide) ?_ | refine abox_plain (by decide) ?_ | refine abox_al ?_ | refine abox_st ?_ | refine adrawG_k (by decide) ?_ | refine adrawG_e (by decide) ?_) | (with_reducible refine hK _ ?_; clear hK; clear K) | simp only [go_sem, Nat.reduceAdd, Nat.reduceSub, Nat.reduceMul, Nat.reduceLeDiff, Nat.reduceEqDiff, Nat.reduceLT, Int.reduceToNat, ↓reduceIte, reduceCtorEq, Int.reduceLE, Int.reduceLT, Int.reduceNeg, Int.reduceEq, Int.reduceBEq, Int.reduceBNe, h2] | (with_reducible refine And.intro (by omega) ?_) | (refine adrawG_f rfl ?_) | (clear hK; clear K))
  have l20 : F.length ≤ 20 := by (try simp only [bne_iff_ne, ne_eq, bne_eq_false_iff_eq, beq_iff_eq, beq_eq_false_iff_ne, decide_eq_true_eq, decide_eq_false_iff_not, Bool.not_eq_true', Bool.not_eq_false', Bool.not_eq_eq_eq_not, Bool.not_true, Bool.not_false, Int.natCast_inj, Int.ofNat_lt, Int.ofNat_le] at h2); omega
  have P1 := pick_c turn 3 (by omega)
  obtain ⟨k, hk, hk3⟩ : ∃ k : Nat, pickI turn 3 = (k : Int) ∧ k < 3 := by
    have := pickI_range (x := turn) (n := 3) (by omega)
    exact ⟨(pickI turn 3).toNat, by omega, by omega⟩
  rw [hk] at P1
  repeat (first | (with_reducible first | refine Stp.up ?_ | refine fun (K : AS → Prop) hK => ?_ | refine adrawE_k (by decide) ?_ | refine adrawE_eff (by decide) ?_ | refine abox_plain (by decide) ?_ | refine abox_al ?_ | refine abox_st ?_ | refine adrawG_k (by decide) ?_ | refine adrawG_e (by decide) ?_) | (with_reducible refine hK _ ?_; clear hK; clear K) | simp only [go_sem, Nat.reduceAdd, Nat.reduceSub, Nat.reduceMul, Nat.reduceLeDiff, Nat.reduceEqDiff, Nat.reduceLT, Int.reduceToNat, ↓reduceIte, reduceCtorEq, Int.reduceLE, Int.reduceLT, Int.reduceNeg, Int.reduceEq, Int.reduceBEq, Int.reduceBNe, h2] | (with_reducible refine And.intro (by omega) ?_) | (refine adrawG_f rfl ?_) | (clear hK; clear K))
  refine ACallV.one P1 ?_
  repeat (first | (with_reducible first | refine Stp.up ?_ | refine fun (K : AS → Prop) hK => ?_ | refine adrawE_k (by decide) ?_ | refine adrawE_eff (by decide) ?_ | refine abox_plain (by decide) ?_ | refine abox_al ?_ | refine abox_st ?_ | refine adrawG_k (by decide) ?_ | refine adrawG_e (by decide) ?_) | (with_reducible refine hK _ ?_; clear hK; clear K) | simp only [go_sem, Nat.reduceAdd, Nat.reduceSub, Nat.reduceMul, Nat.reduceLeDiff, Nat.reduceEqDiff, Nat.reduceLT, Int.reduceToNat, ↓reduceIte, reduceCtorEq, Int.reduceLE, Int.reduceLT, Int.reduceNeg, Int.reduceEq, Int.reduceBEq, Int.reduceBNe] | (with_reducible refine And.intro (by omega) ?_) | (refine adrawG_f rfl ?_) | (clear hK; clear K))
  refine awp_loopV (ι := Nat) 6 9 1 rfl (by omega) 24 (fun i => [(6, .vec 3 i), (13, .v (.int .i64 i))]) (fun i => [some ⟨26, 5, false, [[.slc 8 (ps.map encP) ps.length, .slc 13 (cs.map encC) cs.length, .slc 6 (rs.map encO) rs.length, .v (.int .i64 ra), .v (.int .i64 sl)]]⟩, some ⟨9, 1, true, own.map encS⟩, some ⟨9, 1, true, F.map encS⟩, some ⟨9, 1, true, (toL k i).map encS⟩]) (fun i => F.length - i) (fun i => i ≤ F.length ∧ ∀ s, s ∈ toL k i → s ∉ F) 0 ⟨Nat.zero_le _, fun s hs => by simp [toL] at hs⟩ ?_ ?_
  · (refine wk_mk ?_ ?_ ?_ <;> simp only [frm, List.foldl_cons, List.foldl_nil, List.replicate_succ, List.replicate_zero, WkT, WkO, AV.v.injEq, Value.int.injEq, Value.bool.injEq, Value.string.injEq, AV.vec.injEq, AV.ptr.injEq, true_or, or_true, false_or, or_false, AObj.mk.injEq, forall_eq_apply_imp_iff, forall_eq, forall_eq', go_sem, Nat.reduceAdd, Nat.reduceSub, Nat.reduceMul, Nat.reduceLeDiff, Nat.reduceEqDiff, Nat.reduceLT, Int.reduceToNat, ↓reduceIte, reduceCtorEq, Int.reduceLE, Int.reduceLT, Int.reduceNeg, Int.reduceEq, Int.reduceBEq, Int.reduceBNe])
    all_goals first | rfl | exact ⟨rfl, rfl⟩
  clear h h2 hi' hi i
  rintro i ⟨hi, hnot⟩ K hK
  repeat (first | (with_reducible first | refine Stp.up ?_ | refine fun (K : AS → Prop) hK => ?_ | refine adrawE_k (by decide) ?_ | refine adrawE_eff (by decide) ?_ | refine abox_plain (by decide) ?_ | refine abox_al ?_ | refine abox_st ?_ | refine adrawG_k (by decide) ?_ | refine adrawG_e (by decide) ?_) | (with_reducible refine hK _ ?_; clear hK; clear K) | simp only [go_sem, Nat.reduceAdd, Nat.reduceSub, Nat.reduceMul, Nat.reduceLeDiff, Nat.reduceEqDiff, Nat.reduceLT, Int.reduceToNat, ↓reduceIte, reduceCtorEq, Int.reduceLE, Int.reduceLT, Int.reduceNeg, Int.reduceEq, Int.reduceBEq, Int.reduceBNe] | (with_reducible refine And.intro (by omega) ?_) | (refine adrawG_f rfl ?_) | (clear hK; clear K))
  refine AIf.part (fun h => ?_) (fun h => ?_)
  · have hlt : i < F.length := by (try simp only [bne_iff_ne, ne_eq, bne_eq_false_iff_eq, beq_iff_eq, beq_eq_false_iff_ne, decide_eq_true_eq, decide_eq_false_iff_not, Bool.not_eq_true', Bool.not_eq_false', Bool.not_eq_eq_eq_not, Bool.not_true, Bool.not_false, Int.natCast_inj, Int.ofNat_lt, Int.ofNat_le] at h); omega
    have eW := wrap_succ (k := i) (by omega)
    have lT := toL_len k i
    have wI : IntKind.u8.wrap (IntKind.i64.wrap (97 + (i : Int))) = ((97 + i : Nat) : Int) := by rw [show (97 : Int) + (i : Int) = ((97 + i : Nat) : Int) by omega, wrap_nat' (by omega)]; exact u8_nat (by omega)
    have wK : IntKind.u8.wrap (IntKind.i64.wrap (48 + (k : Int))) = ((48 + k : Nat) : Int) := by rw [show (48 : Int) + (k : Int) = ((48 + k : Nat) : Int) by omega, wrap_nat' (by omega)]; exact u8_nat (by omega)
    have eT : toL k (i + 1) = toL k i ++ [zzN k i] := by simp [toL, List.range_succ]
    have eM : (toL k (i + 1)).map encS = (toL k i).map encS ++ [[.v (.string (zzN k i))]] := by rw [eT]; simp [encS]
    have H := has11_c F (zzN k i)
    simp only [strsA] at H
    repeat (first | (with_reducible first | refine Stp.up ?_ | refine fun (K : AS → Prop) hK => ?_ | refine adrawE_k (by decide) ?_ | refine adrawE_eff (by decide) ?_ | refine abox_plain (by decide) ?_ | refine abox_al ?_ | refine abox_st ?_ | refine adrawG_k (by decide) ?_ | refine adrawG_e (by decide) ?_) | (with_reducible refine hK _ ?_; clear hK; clear K) | simp only [go_sem, Nat.reduceAdd, Nat.reduceSub, Nat.reduceMul, Nat.reduceLeDiff, Nat.reduceEqDiff, Nat.reduceLT, Int.reduceToNat, ↓reduceIte, reduceCtorEq, Int.reduceLE, Int.reduceLT, Int.reduceNeg, Int.reduceEq, Int.reduceBEq, Int.reduceBNe, h, lT] | (with_reducible refine And.intro (by omega) ?_) | (refine adrawG_f rfl ?_) | (clear hK; clear K))
    refine ⟨show (4 : Nat) ≤ _ by omega, ?_⟩
    have eZ : (⟨#[122, 122]⟩ : ByteArray) ++ ⟨#[UInt8.ofNat (97 + i), UInt8.ofNat (48 + k)]⟩ = zzN k i := zz_app _ _
    have lT1 := toL_len k (i + 1)
    have eG3 : ((toL k (i + 1)).map encS).getD i [] = [.v (.string (zzN k i))] := by
      rw [getD_map encS (toL k (i + 1)) i [] (by omega), toL_at]; rfl
    simp only [List.map_cons, List.map_nil, wI, wK, Int.toNat_natCast, eZ]
    repeat (first | (with_reducible first | refine Stp.up ?_ | refine fun (K : AS → Prop) hK => ?_ | refine adrawE_k (by decide) ?_ | refine adrawE_eff (by decide) ?_ | refine abox_plain (by decide) ?_ | refine abox_al ?_ | refine abox_st ?_ | refine adrawG_k (by decide) ?_ | refine adrawG_e (by decide) ?_) | (with_reducible refine hK _ ?_; clear hK; clear K) | simp only [go_sem, Nat.reduceAdd, Nat.reduceSub, Nat.reduceMul, Nat.reduceLeDiff, Nat.reduceEqDiff, Nat.reduceLT, Int.reduceToNat, ↓reduceIte, reduceCtorEq, Int.reduceLE, Int.reduceLT, Int.reduceNeg, Int.reduceEq, Int.reduceBEq, Int.reduceBNe, lT, eM.symm, eG3, lT1] | (with_reducible refine And.intro (by omega) ?_) | (refine adrawG_f rfl ?_) | (clear hK; clear K))
    refine ACallV.frz H 8 rfl (by simp only [go_sem, Nat.reduceLT, Nat.reduceLeDiff, Nat.reduceEqDiff, Nat.lt_add_one, Nat.zero_lt_one, and_self]) rfl ?_
    cases hh : hasB F (zzN k i)
    · repeat (first | (with_reducible first | refine Stp.up ?_ | refine fun (K : AS → Prop) hK => ?_ | refine adrawE_k (by decide) ?_ | refine adrawE_eff (by decide) ?_ | refine abox_plain (by decide) ?_ | refine abox_al ?_ | refine abox_st ?_ | refine adrawG_k (by decide) ?_ | refine adrawG_e (by decide) ?_) | (with_reducible refine hK _ ?_; clear hK; clear K) | simp only [go_sem, Nat.reduceAdd, Nat.reduceSub, Nat.reduceMul, Nat.reduceLeDiff, Nat.reduceEqDiff, Nat.reduceLT, Int.reduceToNat, ↓reduceIte, reduceCtorEq, Int.reduceLE, Int.reduceLT, Int.reduceNeg, Int.reduceEq, Int.reduceBEq, Int.reduceBNe, eW] | (with_reducible refine And.intro (by omega) ?_) | (refine adrawG_f rfl ?_) | (clear hK; clear K))
      refine LNext.mk (i + 1) ⟨by omega, fun s hs => ?_⟩ (by omega) (by (refine wk_mk ?_ ?_ ?_ <;> simp only [frm, List.foldl_cons, List.foldl_nil, List.replicate_succ, List.replicate_zero, WkT, WkO, AV.v.injEq, Value.int.injEq, Value.bool.injEq, Value.string.injEq, AV.vec.injEq, AV.ptr.injEq, true_or, or_true, false_or, or_false, AObj.mk.injEq, forall_eq_apply_imp_iff, forall_eq, forall_eq', go_sem, Nat.reduceAdd, Nat.reduceSub, Nat.reduceMul, Nat.reduceLeDiff, Nat.reduceEqDiff, Nat.reduceLT, Int.reduceToNat, ↓reduceIte, reduceCtorEq, Int.reduceLE, Int.reduceLT, Int.reduceNeg, Int.reduceEq, Int.reduceBEq, Int.reduceBNe]))
      rw [eT] at hs
      rcases List.mem_append.1 hs with hs | hs
      · exact hnot s hs
      · simp only [List.mem_cons, List.not_mem_nil, or_false] at hs
        subst hs
        intro hF
        rw [hasB_iff.2 hF] at hh; cases hh
    · repeat (first | (with_reducible first | refine Stp.up ?_ | refine fun (K : AS → Prop) hK => ?_ | refine adrawE_k (by decide) ?_ | refine adrawE_eff (by decide) ?_ | refine abox_plain (by decide) ?_ | refine abox_al ?_ | refine abox_st ?_ | refine adrawG_k (by decide) ?_ | refine adrawG_e (by decide) ?_) | (with_reducible refine hK _ ?_; clear hK; clear K) | simp only [go_sem, Nat.reduceAdd, Nat.reduceSub, Nat.reduceMul, Nat.reduceLeDiff, Nat.reduceEqDiff, Nat.reduceLT, Int.reduceToNat, ↓reduceIte, reduceCtorEq, Int.reduceLE, Int.reduceLT, Int.reduceNeg, Int.reduceEq, Int.reduceBEq, Int.reduceBNe] | (with_reducible refine And.intro (by omega) ?_) | (refine adrawG_f rfl ?_) | (clear hK; clear K))
  have hi' : i = F.length := by (try simp only [bne_iff_ne, ne_eq, bne_eq_false_iff_eq, beq_iff_eq, beq_eq_false_iff_ne, decide_eq_true_eq, decide_eq_false_iff_not, Bool.not_eq_true', Bool.not_eq_false', Bool.not_eq_eq_eq_not, Bool.not_true, Bool.not_false, Int.natCast_inj, Int.ofNat_lt, Int.ofNat_le] at h); omega
  rw [hi'] at hnot
  simp only [hi']
  have tL := toL_len k F.length
  have tN := toL_nd hk3 l20
  have tM : ∀ s, s ∈ toL k F.length → freeB s = true ∧ noB s = false := fun s hs => toL_mem hk3 l20 hs
  generalize toL k F.length = T at hnot tL tN tM ⊢
  have B := back_all (q := ⟨ps, cs, rs, ra, sl⟩) (F := F) (T := T) (by rw [hO]; exact fm) fn tN tL tM hnot
  obtain ⟨n2, n3, n4, n5⟩ := n1
  simp only at n2 n3 n4 n5
  have R2 := rename_c ⟨ps, cs, rs, ra, sl⟩ F T ⟨n2, n3, n4, n5⟩ tL (by omega) (by rw [once_same fn])
  have R3 := rename_c (mapQ (renN F T) ⟨ps, cs, rs, ra, sl⟩) T F ⟨by simp only [mapQ, List.length_map]; exact n2, by simp only [mapQ, List.length_map]; exact n3, by simp only [mapQ, List.length_map]; exact n4, fun p hp => by
    obtain ⟨p0, h0, rfl⟩ := List.mem_map.1 hp
    exact n5 p0 h0⟩ tL.symm (by omega) (by rw [once_same tN])
  rw [B.back] at R3
  have R4 := rename_c ⟨ps, cs, rs, ra, sl⟩ [⟨#[122, 122, 122]⟩] [⟨#[97]⟩] ⟨n2, n3, n4, n5⟩ rfl (by decide) (by decide +kernel)
  have T1 := treeSame_c ⟨ps, cs, rs, ra, sl⟩ ⟨ps, cs, rs, ra, sl⟩
  rw [qrySame_refl] at T1
  have T2 := treeSame_c (mapQ (renN [⟨#[122, 122, 122]⟩] [⟨#[97]⟩]) ⟨ps, cs, rs, ra, sl⟩) ⟨ps, cs, rs, ra, sl⟩
  have H1 := has11_c own ⟨#[122, 122, 122]⟩
  have hz : hasB own ⟨#[122, 122, 122]⟩ = false → qrySame (mapQ (renN [⟨#[122, 122, 122]⟩] [⟨#[97]⟩]) ⟨ps, cs, rs, ra, sl⟩) ⟨ps, cs, rs, ra, sl⟩ = true := fun hh => by
    rw [mapQ_still (fun s hs => renN_not (fun hm => ?_)), qrySame_refl]
    rw [hO] at hs
    simp only [List.mem_cons, List.not_mem_nil, or_false] at hm
    subst hm
    rw [hasB_iff.2 hs] at hh; cases hh
  have V1 := vertices_c ⟨ps, cs, rs, ra, sl⟩ (by simp only; omega)
  have V2 := vertices_c (mapQ (renN F T) ⟨ps, cs, rs, ra, sl⟩) (by simp only [mapQ, List.length_map]; omega)
  have E1 := edges_c ⟨ps, cs, rs, ra, sl⟩ (by simp only; omega)
  have E2 := edges_c (mapQ (renN F T) ⟨ps, cs, rs, ra, sl⟩) (by simp only [mapQ, List.length_map]; omega)
  have Y2 := treeRight_c (mapQ (renN F T) ⟨ps, cs, rs, ra, sl⟩) (map_ok B.okT oq)
  have Z1 := treeSize_c ⟨ps, cs, rs, ra, sl⟩ oq (by have := z1.1; simp only at this ⊢; omega) (fun p hp => by have := z1.2 p hp; omega)
  have Z2 := treeSize_c (mapQ (renN F T) ⟨ps, cs, rs, ra, sl⟩) (map_ok B.okT oq) (by have := z1.1; simp only [mapQ, List.length_map] at this ⊢; omega) (fun p hp => by
    obtain ⟨p0, h0, rfl⟩ := List.mem_map.1 hp
    have := z1.2 p0 h0
    simp only [mapP]; omega)
  rw [qrySize_map] at Z2
  simp only [encQ, mapQ, strsA, List.length_map, List.length_cons, List.length_nil, Nat.reduceAdd, tL] at R2 R3 R4 T1 T2 H1 V1 V2 E1 E2 Y2 Z1 Z2 hz
  repeat ((fail_if_success (with_reducible refine stopR (i := 32) ?_)); first | (with_reducible first | refine Stp.up ?_ | refine fun (K : AS → Prop) hK => ?_ | refine adrawE_k (by decide) ?_ | refine adrawE_eff (by decide) ?_ | refine abox_plain (by decide) ?_ | refine abox_al ?_ | refine abox_st ?_ | refine adrawG_k (by decide) ?_ | refine adrawG_e (by decide) ?_) | (with_reducible refine hK _ ?_; clear hK; clear K) | simp only [go_sem, Nat.reduceAdd, Nat.reduceSub, Nat.reduceMul, Nat.reduceLeDiff, Nat.reduceEqDiff, Nat.reduceLT, Int.reduceToNat, ↓reduceIte, reduceCtorEq, Int.reduceLE, Int.reduceLT, Int.reduceNeg, Int.reduceEq, Int.reduceBEq, Int.reduceBNe, h] | (with_reducible refine And.intro (by omega) ?_) | (refine adrawG_f rfl ?_) | (clear hK; clear K))
  refine awp_turn (turn_free 5 2 rfl rfl rfl (List.length_map _)) (by kernel_rfl) ?_
  simp only [List.set_cons_zero, List.set_cons_succ]
  refine awp_turn (turn_free 6 3 rfl rfl rfl (by rw [List.length_map, tL])) (by kernel_rfl) ?_
  simp only [List.set_cons_zero, List.set_cons_succ]
  repeat (first | (with_reducible first | refine Stp.up ?_ | refine fun (K : AS → Prop) hK => ?_ | refine adrawE_k (by decide) ?_ | refine adrawE_eff (by decide) ?_ | refine abox_plain (by decide) ?_ | refine abox_al ?_ | refine abox_st ?_ | refine adrawG_k (by decide) ?_ | refine adrawG_e (by decide) ?_) | (with_reducible refine hK _ ?_; clear hK; clear K) | simp only [go_sem, Nat.reduceAdd, Nat.reduceSub, Nat.reduceMul, Nat.reduceLeDiff, Nat.reduceEqDiff, Nat.reduceLT, Int.reduceToNat, ↓reduceIte, reduceCtorEq, Int.reduceLE, Int.reduceLT, Int.reduceNeg, Int.reduceEq, Int.reduceBEq, Int.reduceBNe] | (with_reducible refine And.intro (by omega) ?_) | (refine adrawG_f rfl ?_) | (clear hK; clear K))
  refine ACallV.one R2 ?_
  repeat (first | (with_reducible first | refine Stp.up ?_ | refine fun (K : AS → Prop) hK => ?_ | refine adrawE_k (by decide) ?_ | refine adrawE_eff (by decide) ?_ | refine abox_plain (by decide) ?_ | refine abox_al ?_ | refine abox_st ?_ | refine adrawG_k (by decide) ?_ | refine adrawG_e (by decide) ?_) | (with_reducible refine hK _ ?_; clear hK; clear K) | simp only [go_sem, Nat.reduceAdd, Nat.reduceSub, Nat.reduceMul, Nat.reduceLeDiff, Nat.reduceEqDiff, Nat.reduceLT, Int.reduceToNat, ↓reduceIte, reduceCtorEq, Int.reduceLE, Int.reduceLT, Int.reduceNeg, Int.reduceEq, Int.reduceBEq, Int.reduceBNe] | (with_reducible refine And.intro (by omega) ?_) | (refine adrawG_f rfl ?_) | (clear hK; clear K))
  refine ACallV.one R3 ?_
  repeat (first | (with_reducible first | refine Stp.up ?_ | refine fun (K : AS → Prop) hK => ?_ | refine adrawE_k (by decide) ?_ | refine adrawE_eff (by decide) ?_ | refine abox_plain (by decide) ?_ | refine abox_al ?_ | refine abox_st ?_ | refine adrawG_k (by decide) ?_ | refine adrawG_e (by decide) ?_) | (with_reducible refine hK _ ?_; clear hK; clear K) | simp only [go_sem, Nat.reduceAdd, Nat.reduceSub, Nat.reduceMul, Nat.reduceLeDiff, Nat.reduceEqDiff, Nat.reduceLT, Int.reduceToNat, ↓reduceIte, reduceCtorEq, Int.reduceLE, Int.reduceLT, Int.reduceNeg, Int.reduceEq, Int.reduceBEq, Int.reduceBNe] | (with_reducible refine And.intro (by omega) ?_) | (refine adrawG_f rfl ?_) | (clear hK; clear K))
  refine ACallV.give R4 rfl (by simp only [go_sem, Nat.reduceLT, Nat.reduceLeDiff, Nat.reduceEqDiff, Nat.lt_add_one, Nat.zero_lt_one, and_self]) ?_
  repeat (first | (with_reducible first | refine Stp.up ?_ | refine fun (K : AS → Prop) hK => ?_ | refine adrawE_k (by decide) ?_ | refine adrawE_eff (by decide) ?_ | refine abox_plain (by decide) ?_ | refine abox_al ?_ | refine abox_st ?_ | refine adrawG_k (by decide) ?_ | refine adrawG_e (by decide) ?_) | (with_reducible refine hK _ ?_; clear hK; clear K) | simp only [go_sem, Nat.reduceAdd, Nat.reduceSub, Nat.reduceMul, Nat.reduceLeDiff, Nat.reduceEqDiff, Nat.reduceLT, Int.reduceToNat, ↓reduceIte, reduceCtorEq, Int.reduceLE, Int.reduceLT, Int.reduceNeg, Int.reduceEq, Int.reduceBEq, Int.reduceBNe] | (with_reducible refine And.intro (by omega) ?_) | (refine adrawG_f rfl ?_) | (clear hK; clear K))
  refine ACallV.one T1 ?_
  repeat (first | (with_reducible first | refine Stp.up ?_ | refine fun (K : AS → Prop) hK => ?_ | refine adrawE_k (by decide) ?_ | refine adrawE_eff (by decide) ?_ | refine abox_plain (by decide) ?_ | refine abox_al ?_ | refine abox_st ?_ | refine adrawG_k (by decide) ?_ | refine adrawG_e (by decide) ?_) | (with_reducible refine hK _ ?_; clear hK; clear K) | simp only [go_sem, Nat.reduceAdd, Nat.reduceSub, Nat.reduceMul, Nat.reduceLeDiff, Nat.reduceEqDiff, Nat.reduceLT, Int.reduceToNat, ↓reduceIte, reduceCtorEq, Int.reduceLE, Int.reduceLT, Int.reduceNeg, Int.reduceEq, Int.reduceBEq, Int.reduceBNe] | (with_reducible refine And.intro (by omega) ?_) | (refine adrawG_f rfl ?_) | (clear hK; clear K))
  refine ACallV.frz H1 8 rfl (by simp only [go_sem, Nat.reduceLT, Nat.reduceLeDiff, Nat.reduceEqDiff, Nat.lt_add_one, Nat.zero_lt_one, and_self]) rfl ?_
  rw [B.vert] at V2
  have bE := B.edge
  have bR := B.right
  have lA : (onceL (vnames ps)).length ≤ 2000 := by have := onceL_len (vnames ps); have := vnames_len ps; omega
  simp only at bE
  simp only [List.length_map] at V2
  generalize onceL (vnames ps) = A at V1 V2 lA
  generalize onceL (enames ps) = EA at E1 bE
  generalize onceL (enames (ps.map (mapP (renN F T)))) = EB at E2 bE
  clear R2 R3 R4 fm hown hO hb0 oL fL fl e0
  cases hh : hasB own ⟨#[122, 122, 122]⟩
  case' false =>
    have hz := hz hh
    rw [hz] at T2
    repeat (first | (with_reducible first | refine Stp.up ?_ | refine fun (K : AS → Prop) hK => ?_ | refine adrawE_k (by decide) ?_ | refine adrawE_eff (by decide) ?_ | refine abox_plain (by decide) ?_ | refine abox_al ?_ | refine abox_st ?_ | refine adrawG_k (by decide) ?_ | refine adrawG_e (by decide) ?_) | (with_reducible refine hK _ ?_; clear hK; clear K) | simp only [go_sem, Nat.reduceAdd, Nat.reduceSub, Nat.reduceMul, Nat.reduceLeDiff, Nat.reduceEqDiff, Nat.reduceLT, Int.reduceToNat, ↓reduceIte, reduceCtorEq, Int.reduceLE, Int.reduceLT, Int.reduceNeg, Int.reduceEq, Int.reduceBEq, Int.reduceBNe] | (with_reducible refine And.intro (by omega) ?_) | (refine adrawG_f rfl ?_) | (clear hK; clear K))
    refine ACallV.one T2 ?_
  all_goals
    repeat (first | (with_reducible first | refine Stp.up ?_ | refine fun (K : AS → Prop) hK => ?_ | refine adrawE_k (by decide) ?_ | refine adrawE_eff (by decide) ?_ | refine abox_plain (by decide) ?_ | refine abox_al ?_ | refine abox_st ?_ | refine adrawG_k (by decide) ?_ | refine adrawG_e (by decide) ?_) | (with_reducible refine hK _ ?_; clear hK; clear K) | simp only [go_sem, Nat.reduceAdd, Nat.reduceSub, Nat.reduceMul, Nat.reduceLeDiff, Nat.reduceEqDiff, Nat.reduceLT, Int.reduceToNat, ↓reduceIte, reduceCtorEq, Int.reduceLE, Int.reduceLT, Int.reduceNeg, Int.reduceEq, Int.reduceBEq, Int.reduceBNe] | (with_reducible refine And.intro (by omega) ?_) | (refine adrawG_f rfl ?_) | (clear hK; clear K))
    refine awp_draw (by kernel_rfl) (by decide) ?_
    repeat (first | (with_reducible first | refine Stp.up ?_ | refine fun (K : AS → Prop) hK => ?_ | refine adrawE_k (by decide) ?_ | refine adrawE_eff (by decide) ?_ | refine abox_plain (by decide) ?_ | refine abox_al ?_ | refine abox_st ?_ | refine adrawG_k (by decide) ?_ | refine adrawG_e (by decide) ?_) | (with_reducible refine hK _ ?_; clear hK; clear K) | simp only [go_sem, Nat.reduceAdd, Nat.reduceSub, Nat.reduceMul, Nat.reduceLeDiff, Nat.reduceEqDiff, Nat.reduceLT, Int.reduceToNat, ↓reduceIte, reduceCtorEq, Int.reduceLE, Int.reduceLT, Int.reduceNeg, Int.reduceEq, Int.reduceBEq, Int.reduceBNe] | (with_reducible refine And.intro (by omega) ?_) | (refine adrawG_f rfl ?_) | (clear hK; clear K))
    refine ACallS.one V1 ?_
    repeat (first | (with_reducible first | refine Stp.up ?_ | refine fun (K : AS → Prop) hK => ?_ | refine adrawE_k (by decide) ?_ | refine adrawE_eff (by decide) ?_ | refine abox_plain (by decide) ?_ | refine abox_al ?_ | refine abox_st ?_ | refine adrawG_k (by decide) ?_ | refine adrawG_e (by decide) ?_) | (with_reducible refine hK _ ?_; clear hK; clear K) | simp only [go_sem, Nat.reduceAdd, Nat.reduceSub, Nat.reduceMul, Nat.reduceLeDiff, Nat.reduceEqDiff, Nat.reduceLT, Int.reduceToNat, ↓reduceIte, reduceCtorEq, Int.reduceLE, Int.reduceLT, Int.reduceNeg, Int.reduceEq, Int.reduceBEq, Int.reduceBNe] | (with_reducible refine And.intro (by omega) ?_) | (refine adrawG_f rfl ?_) | (clear hK; clear K))
    refine ACallS.one V2 ?_
    repeat (first | (with_reducible first | refine Stp.up ?_ | refine fun (K : AS → Prop) hK => ?_ | refine adrawE_k (by decide) ?_ | refine adrawE_eff (by decide) ?_ | refine abox_plain (by decide) ?_ | refine abox_al ?_ | refine abox_st ?_ | refine adrawG_k (by decide) ?_ | refine adrawG_e (by decide) ?_) | (with_reducible refine hK _ ?_; clear hK; clear K) | simp only [go_sem, Nat.reduceAdd, Nat.reduceSub, Nat.reduceMul, Nat.reduceLeDiff, Nat.reduceEqDiff, Nat.reduceLT, Int.reduceToNat, ↓reduceIte, reduceCtorEq, Int.reduceLE, Int.reduceLT, Int.reduceNeg, Int.reduceEq, Int.reduceBEq, Int.reduceBNe] | (with_reducible refine And.intro (by omega) ?_) | (refine adrawG_f rfl ?_) | (clear hK; clear K))
    refine awp_loopK (ι := Nat) 24 (fun i => [(22, .v (.int .i64 i)), (23, .undef)]) (fun i => A.length - i) (fun i => i ≤ A.length) 0 (Nat.zero_le _) ?_ ?_
    · (refine wk_mk ?_ ?_ ?_ <;> simp only [frm, List.foldl_cons, List.foldl_nil, List.replicate_succ, List.replicate_zero, WkT, WkO, AV.v.injEq, Value.int.injEq, Value.bool.injEq, Value.string.injEq, AV.vec.injEq, AV.ptr.injEq, true_or, or_true, false_or, or_false, AObj.mk.injEq, forall_eq_apply_imp_iff, forall_eq, forall_eq', go_sem, Nat.reduceAdd, Nat.reduceSub, Nat.reduceMul, Nat.reduceLeDiff, Nat.reduceEqDiff, Nat.reduceLT, Int.reduceToNat, ↓reduceIte, reduceCtorEq, Int.reduceLE, Int.reduceLT, Int.reduceNeg, Int.reduceEq, Int.reduceBEq, Int.reduceBNe])
      rfl
    clear h hi' hi i
    rintro i hi K hK
    repeat (first | (with_reducible first | refine Stp.up ?_ | refine fun (K : AS → Prop) hK => ?_ | refine adrawE_k (by decide) ?_ | refine adrawE_eff (by decide) ?_ | refine abox_plain (by decide) ?_ | refine abox_al ?_ | refine abox_st ?_ | refine adrawG_k (by decide) ?_ | refine adrawG_e (by decide) ?_) | (with_reducible refine hK _ ?_; clear hK; clear K) | simp only [go_sem, Nat.reduceAdd, Nat.reduceSub, Nat.reduceMul, Nat.reduceLeDiff, Nat.reduceEqDiff, Nat.reduceLT, Int.reduceToNat, ↓reduceIte, reduceCtorEq, Int.reduceLE, Int.reduceLT, Int.reduceNeg, Int.reduceEq, Int.reduceBEq, Int.reduceBNe] | (with_reducible refine And.intro (by omega) ?_) | (refine adrawG_f rfl ?_) | (clear hK; clear K))
    refine AIf.part (fun h => ?_) (fun h => ?_)
    · have hlt : i < A.length := by (try simp only [bne_iff_ne, ne_eq, bne_eq_false_iff_eq, beq_iff_eq, beq_eq_false_iff_ne, decide_eq_true_eq, decide_eq_false_iff_not, Bool.not_eq_true', Bool.not_eq_false', Bool.not_eq_eq_eq_not, Bool.not_true, Bool.not_false, Int.natCast_inj, Int.ofNat_lt, Int.ofNat_le] at h); omega
      have eW := wrap_succ (k := i) (by omega)
      have eG1 := getD_map encS A i [] hlt
      have eG2 : ((A.map (renN F T)).map encS).getD i [] = encS (renN F T A[i]) := by rw [getD_map encS _ i [] (by simpa using hlt)]; simp
      simp only [encS] at eG1 eG2
      repeat (first | (with_reducible first | refine Stp.up ?_ | refine fun (K : AS → Prop) hK => ?_ | refine adrawE_k (by decide) ?_ | refine adrawE_eff (by decide) ?_ | refine abox_plain (by decide) ?_ | refine abox_al ?_ | refine abox_st ?_ | refine adrawG_k (by decide) ?_ | refine adrawG_e (by decide) ?_) | (with_reducible refine hK _ ?_; clear hK; clear K) | simp only [go_sem, Nat.reduceAdd, Nat.reduceSub, Nat.reduceMul, Nat.reduceLeDiff, Nat.reduceEqDiff, Nat.reduceLT, Int.reduceToNat, ↓reduceIte, reduceCtorEq, Int.reduceLE, Int.reduceLT, Int.reduceNeg, Int.reduceEq, Int.reduceBEq, Int.reduceBNe, h] | (with_reducible refine And.intro (by omega) ?_) | (refine adrawG_f rfl ?_) | (clear hK; clear K))
      refine awp_loopK (ι := Nat) 24 (fun m => [(23, .v (.int .i64 m))]) (fun m => F.length - m) (fun m => m ≤ F.length) 0 (Nat.zero_le _) ?_ ?_
      · (refine wk_mk ?_ ?_ ?_ <;> simp only [frm, List.foldl_cons, List.foldl_nil, List.replicate_succ, List.replicate_zero, WkT, WkO, AV.v.injEq, Value.int.injEq, Value.bool.injEq, Value.string.injEq, AV.vec.injEq, AV.ptr.injEq, true_or, or_true, false_or, or_false, AObj.mk.injEq, forall_eq_apply_imp_iff, forall_eq, forall_eq', go_sem, Nat.reduceAdd, Nat.reduceSub, Nat.reduceMul, Nat.reduceLeDiff, Nat.reduceEqDiff, Nat.reduceLT, Int.reduceToNat, ↓reduceIte, reduceCtorEq, Int.reduceLE, Int.reduceLT, Int.reduceNeg, Int.reduceEq, Int.reduceBEq, Int.reduceBNe])
        all_goals rfl
      rintro m hm K hK
      repeat (first | (with_reducible first | refine Stp.up ?_ | refine fun (K : AS → Prop) hK => ?_ | refine adrawE_k (by decide) ?_ | refine adrawE_eff (by decide) ?_ | refine abox_plain (by decide) ?_ | refine abox_al ?_ | refine abox_st ?_ | refine adrawG_k (by decide) ?_ | refine adrawG_e (by decide) ?_) | (with_reducible refine hK _ ?_; clear hK; clear K) | simp only [go_sem, Nat.reduceAdd, Nat.reduceSub, Nat.reduceMul, Nat.reduceLeDiff, Nat.reduceEqDiff, Nat.reduceLT, Int.reduceToNat, ↓reduceIte, reduceCtorEq, Int.reduceLE, Int.reduceLT, Int.reduceNeg, Int.reduceEq, Int.reduceBEq, Int.reduceBNe] | (with_reducible refine And.intro (by omega) ?_) | (refine adrawG_f rfl ?_) | (clear hK; clear K))
      refine AIf.part (fun h3 => ?_) (fun h3 => ?_)
      · have hml : m < F.length := by (try simp only [bne_iff_ne, ne_eq, bne_eq_false_iff_eq, beq_iff_eq, beq_eq_false_iff_ne, decide_eq_true_eq, decide_eq_false_iff_not, Bool.not_eq_true', Bool.not_eq_false', Bool.not_eq_eq_eq_not, Bool.not_true, Bool.not_false, Int.natCast_inj, Int.ofNat_lt, Int.ofNat_le] at h3); omega
        have eW2 := wrap_succ (k := m) (by omega)
        have eG3 := getD_map encS F m [] hml
        have eG4 := getD_map encS T m [] (by omega)
        simp only [encS] at eG3 eG4
        repeat (first | (with_reducible first | refine Stp.up ?_ | refine fun (K : AS → Prop) hK => ?_ | refine adrawE_k (by decide) ?_ | refine adrawE_eff (by decide) ?_ | refine abox_plain (by decide) ?_ | refine abox_al ?_ | refine abox_st ?_ | refine adrawG_k (by decide) ?_ | refine adrawG_e (by decide) ?_) | (with_reducible refine hK _ ?_; clear hK; clear K) | simp only [go_sem, Nat.reduceAdd, Nat.reduceSub, Nat.reduceMul, Nat.reduceLeDiff, Nat.reduceEqDiff, Nat.reduceLT, Int.reduceToNat, ↓reduceIte, reduceCtorEq, Int.reduceLE, Int.reduceLT, Int.reduceNeg, Int.reduceEq, Int.reduceBEq, Int.reduceBNe, h3] | (with_reducible refine And.intro (by omega) ?_) | (refine adrawG_f rfl ?_) | (clear hK; clear K))
        refine awp_draw (by kernel_rfl) (by decide) ?_
        repeat (first | (with_reducible first | refine Stp.up ?_ | refine fun (K : AS → Prop) hK => ?_ | refine adrawE_k (by decide) ?_ | refine adrawE_eff (by decide) ?_ | refine abox_plain (by decide) ?_ | refine abox_al ?_ | refine abox_st ?_ | refine adrawG_k (by decide) ?_ | refine adrawG_e (by decide) ?_) | (with_reducible refine hK _ ?_; clear hK; clear K) | simp only [go_sem, Nat.reduceAdd, Nat.reduceSub, Nat.reduceMul, Nat.reduceLeDiff, Nat.reduceEqDiff, Nat.reduceLT, Int.reduceToNat, ↓reduceIte, reduceCtorEq, Int.reduceLE, Int.reduceLT, Int.reduceNeg, Int.reduceEq, Int.reduceBEq, Int.reduceBNe, eG1, eG2, eG3, eG4] | (with_reducible refine And.intro (by omega) ?_) | (refine adrawG_f rfl ?_) | (clear hK; clear K))
        refine AIf.part (fun h5 => ?_) (fun h5 => ?_)
        · have eQ : renN F T A[i] = T[m] := by
            have e : F[m] = A[i] := toList_inj.1 (by simpa using h5)
            rw [← e, renN_at fn tL hml]
          have eq2 : (T[m].toList != T[m].toList) = false := by simp
          repeat (first | (with_reducible first | refine Stp.up ?_ | refine fun (K : AS → Prop) hK => ?_ | refine adrawE_k (by decide) ?_ | refine adrawE_eff (by decide) ?_ | refine abox_plain (by decide) ?_ | refine abox_al ?_ | refine abox_st ?_ | refine adrawG_k (by decide) ?_ | refine adrawG_e (by decide) ?_) | (with_reducible refine hK _ ?_; clear hK; clear K) | simp only [go_sem, Nat.reduceAdd, Nat.reduceSub, Nat.reduceMul, Nat.reduceLeDiff, Nat.reduceEqDiff, Nat.reduceLT, Int.reduceToNat, ↓reduceIte, reduceCtorEq, Int.reduceLE, Int.reduceLT, Int.reduceNeg, Int.reduceEq, Int.reduceBEq, Int.reduceBNe, h5, eG1, eG2, eG3, eG4, eQ, eq2, eW2, Go.undef] | (with_reducible refine And.intro (by omega) ?_) | (refine adrawG_f rfl ?_) | (clear hK; clear K))
          exact LNext.mk (m + 1) (by omega) (by omega) (by (refine wk_mk ?_ ?_ ?_ <;> simp only [frm, List.foldl_cons, List.foldl_nil, List.replicate_succ, List.replicate_zero, WkT, WkO, AV.v.injEq, Value.int.injEq, Value.bool.injEq, Value.string.injEq, AV.vec.injEq, AV.ptr.injEq, true_or, or_true, false_or, or_false, AObj.mk.injEq, forall_eq_apply_imp_iff, forall_eq, forall_eq', go_sem, Nat.reduceAdd, Nat.reduceSub, Nat.reduceMul, Nat.reduceLeDiff, Nat.reduceEqDiff, Nat.reduceLT, Int.reduceToNat, ↓reduceIte, reduceCtorEq, Int.reduceLE, Int.reduceLT, Int.reduceNeg, Int.reduceEq, Int.reduceBEq, Int.reduceBNe]))
        · repeat (first | (with_reducible first | refine Stp.up ?_ | refine fun (K : AS → Prop) hK => ?_ | refine adrawE_k (by decide) ?_ | refine adrawE_eff (by decide) ?_ | refine abox_plain (by decide) ?_ | refine abox_al ?_ | refine abox_st ?_ | refine adrawG_k (by decide) ?_ | refine adrawG_e (by decide) ?_) | (with_reducible refine hK _ ?_; clear hK; clear K) | simp only [go_sem, Nat.reduceAdd, Nat.reduceSub, Nat.reduceMul, Nat.reduceLeDiff, Nat.reduceEqDiff, Nat.reduceLT, Int.reduceToNat, ↓reduceIte, reduceCtorEq, Int.reduceLE, Int.reduceLT, Int.reduceNeg, Int.reduceEq, Int.reduceBEq, Int.reduceBNe, h5, eW2, Go.undef] | (with_reducible refine And.intro (by omega) ?_) | (refine adrawG_f rfl ?_) | (clear hK; clear K))
          exact LNext.mk (m + 1) (by omega) (by omega) (by (refine wk_mk ?_ ?_ ?_ <;> simp only [frm, List.foldl_cons, List.foldl_nil, List.replicate_succ, List.replicate_zero, WkT, WkO, AV.v.injEq, Value.int.injEq, Value.bool.injEq, Value.string.injEq, AV.vec.injEq, AV.ptr.injEq, true_or, or_true, false_or, or_false, AObj.mk.injEq, forall_eq_apply_imp_iff, forall_eq, forall_eq', go_sem, Nat.reduceAdd, Nat.reduceSub, Nat.reduceMul, Nat.reduceLeDiff, Nat.reduceEqDiff, Nat.reduceLT, Int.reduceToNat, ↓reduceIte, reduceCtorEq, Int.reduceLE, Int.reduceLT, Int.reduceNeg, Int.reduceEq, Int.reduceBEq, Int.reduceBNe]))
      · repeat (first | (with_reducible first | refine Stp.up ?_ | refine fun (K : AS → Prop) hK => ?_ | refine adrawE_k (by decide) ?_ | refine adrawE_eff (by decide) ?_ | refine abox_plain (by decide) ?_ | refine abox_al ?_ | refine abox_st ?_ | refine adrawG_k (by decide) ?_ | refine adrawG_e (by decide) ?_) | (with_reducible refine hK _ ?_; clear hK; clear K) | simp only [go_sem, Nat.reduceAdd, Nat.reduceSub, Nat.reduceMul, Nat.reduceLeDiff, Nat.reduceEqDiff, Nat.reduceLT, Int.reduceToNat, ↓reduceIte, reduceCtorEq, Int.reduceLE, Int.reduceLT, Int.reduceNeg, Int.reduceEq, Int.reduceBEq, Int.reduceBNe, h3, eW] | (with_reducible refine And.intro (by omega) ?_) | (refine adrawG_f rfl ?_) | (clear hK; clear K))
        exact LNext.mk (i + 1) (by omega) (by omega) (by (refine wk_mk ?_ ?_ ?_ <;> simp only [frm, List.foldl_cons, List.foldl_nil, List.replicate_succ, List.replicate_zero, WkT, WkO, AV.v.injEq, Value.int.injEq, Value.bool.injEq, Value.string.injEq, AV.vec.injEq, AV.ptr.injEq, true_or, or_true, false_or, or_false, AObj.mk.injEq, forall_eq_apply_imp_iff, forall_eq, forall_eq', go_sem, Nat.reduceAdd, Nat.reduceSub, Nat.reduceMul, Nat.reduceLeDiff, Nat.reduceEqDiff, Nat.reduceLT, Int.reduceToNat, ↓reduceIte, reduceCtorEq, Int.reduceLE, Int.reduceLT, Int.reduceNeg, Int.reduceEq, Int.reduceBEq, Int.reduceBNe]))
    · repeat (first | (with_reducible first | refine Stp.up ?_ | refine fun (K : AS → Prop) hK => ?_ | refine adrawE_k (by decide) ?_ | refine adrawE_eff (by decide) ?_ | refine abox_plain (by decide) ?_ | refine abox_al ?_ | refine abox_st ?_ | refine adrawG_k (by decide) ?_ | refine adrawG_e (by decide) ?_) | (with_reducible refine hK _ ?_; clear hK; clear K) | simp only [go_sem, Nat.reduceAdd, Nat.reduceSub, Nat.reduceMul, Nat.reduceLeDiff, Nat.reduceEqDiff, Nat.reduceLT, Int.reduceToNat, ↓reduceIte, reduceCtorEq, Int.reduceLE, Int.reduceLT, Int.reduceNeg, Int.reduceEq, Int.reduceBEq, Int.reduceBNe, h, Go.undef] | (with_reducible refine And.intro (by omega) ?_) | (refine adrawG_f rfl ?_) | (clear hK; clear K))
      have eb : ∀ n : Int, (n == n) = true := fun n => by simp
      cases hr : qryRight ⟨ps, cs, rs, ra, sl⟩
      · rw [hr] at R1
        refine awp_draw (by kernel_rfl) (by decide) ?_
        repeat (first | (with_reducible first | refine Stp.up ?_ | refine fun (K : AS → Prop) hK => ?_ | refine adrawE_k (by decide) ?_ | refine adrawE_eff (by decide) ?_ | refine abox_plain (by decide) ?_ | refine abox_al ?_ | refine abox_st ?_ | refine adrawG_k (by decide) ?_ | refine adrawG_e (by decide) ?_) | (with_reducible refine hK _ ?_; clear hK; clear K) | simp only [go_sem, Nat.reduceAdd, Nat.reduceSub, Nat.reduceMul, Nat.reduceLeDiff, Nat.reduceEqDiff, Nat.reduceLT, Int.reduceToNat, ↓reduceIte, reduceCtorEq, Int.reduceLE, Int.reduceLT, Int.reduceNeg, Int.reduceEq, Int.reduceBEq, Int.reduceBNe, eb] | (with_reducible refine And.intro (by omega) ?_) | (refine adrawG_f rfl ?_) | (clear hK; clear K))
        refine ACallS.one E1 ?_
        repeat (first | (with_reducible first | refine Stp.up ?_ | refine fun (K : AS → Prop) hK => ?_ | refine adrawE_k (by decide) ?_ | refine adrawE_eff (by decide) ?_ | refine abox_plain (by decide) ?_ | refine abox_al ?_ | refine abox_st ?_ | refine adrawG_k (by decide) ?_ | refine adrawG_e (by decide) ?_) | (with_reducible refine hK _ ?_; clear hK; clear K) | simp only [go_sem, Nat.reduceAdd, Nat.reduceSub, Nat.reduceMul, Nat.reduceLeDiff, Nat.reduceEqDiff, Nat.reduceLT, Int.reduceToNat, ↓reduceIte, reduceCtorEq, Int.reduceLE, Int.reduceLT, Int.reduceNeg, Int.reduceEq, Int.reduceBEq, Int.reduceBNe, eb] | (with_reducible refine And.intro (by omega) ?_) | (refine adrawG_f rfl ?_) | (clear hK; clear K))
        refine ACallS.one E2 ?_
        repeat (first | (with_reducible first | refine Stp.up ?_ | refine fun (K : AS → Prop) hK => ?_ | refine adrawE_k (by decide) ?_ | refine adrawE_eff (by decide) ?_ | refine abox_plain (by decide) ?_ | refine abox_al ?_ | refine abox_st ?_ | refine adrawG_k (by decide) ?_ | refine adrawG_e (by decide) ?_) | (with_reducible refine hK _ ?_; clear hK; clear K) | simp only [go_sem, Nat.reduceAdd, Nat.reduceSub, Nat.reduceMul, Nat.reduceLeDiff, Nat.reduceEqDiff, Nat.reduceLT, Int.reduceToNat, ↓reduceIte, reduceCtorEq, Int.reduceLE, Int.reduceLT, Int.reduceNeg, Int.reduceEq, Int.reduceBEq, Int.reduceBNe, eb, bE] | (with_reducible refine And.intro (by omega) ?_) | (refine adrawG_f rfl ?_) | (clear hK; clear K))
        refine ACallS.one R1 ?_
        repeat (first | (with_reducible first | refine Stp.up ?_ | refine fun (K : AS → Prop) hK => ?_ | refine adrawE_k (by decide) ?_ | refine adrawE_eff (by decide) ?_ | refine abox_plain (by decide) ?_ | refine abox_al ?_ | refine abox_st ?_ | refine adrawG_k (by decide) ?_ | refine adrawG_e (by decide) ?_) | (with_reducible refine hK _ ?_; clear hK; clear K) | simp only [go_sem, Nat.reduceAdd, Nat.reduceSub, Nat.reduceMul, Nat.reduceLeDiff, Nat.reduceEqDiff, Nat.reduceLT, Int.reduceToNat, ↓reduceIte, reduceCtorEq, Int.reduceLE, Int.reduceLT, Int.reduceNeg, Int.reduceEq, Int.reduceBEq, Int.reduceBNe, eb, Go.undef] | (with_reducible refine And.intro (by omega) ?_) | (refine adrawG_f rfl ?_) | (clear hK; clear K))
        refine ACallS.one Z2 ?_
        repeat (first | (with_reducible first | refine Stp.up ?_ | refine fun (K : AS → Prop) hK => ?_ | refine adrawE_k (by decide) ?_ | refine adrawE_eff (by decide) ?_ | refine abox_plain (by decide) ?_ | refine abox_al ?_ | refine abox_st ?_ | refine adrawG_k (by decide) ?_ | refine adrawG_e (by decide) ?_) | (with_reducible refine hK _ ?_; clear hK; clear K) | simp only [go_sem, Nat.reduceAdd, Nat.reduceSub, Nat.reduceMul, Nat.reduceLeDiff, Nat.reduceEqDiff, Nat.reduceLT, Int.reduceToNat, ↓reduceIte, reduceCtorEq, Int.reduceLE, Int.reduceLT, Int.reduceNeg, Int.reduceEq, Int.reduceBEq, Int.reduceBNe, eb] | (with_reducible refine And.intro (by omega) ?_) | (refine adrawG_f rfl ?_) | (clear hK; clear K))
        refine ACallS.one Z1 ?_
        repeat (first | (with_reducible first | refine Stp.up ?_ | refine fun (K : AS → Prop) hK => ?_ | refine adrawE_k (by decide) ?_ | refine adrawE_eff (by decide) ?_ | refine abox_plain (by decide) ?_ | refine abox_al ?_ | refine abox_st ?_ | refine adrawG_k (by decide) ?_ | refine adrawG_e (by decide) ?_) | (with_reducible refine hK _ ?_; clear hK; clear K) | simp only [go_sem, Nat.reduceAdd, Nat.reduceSub, Nat.reduceMul, Nat.reduceLeDiff, Nat.reduceEqDiff, Nat.reduceLT, Int.reduceToNat, ↓reduceIte, reduceCtorEq, Int.reduceLE, Int.reduceLT, Int.reduceNeg, Int.reduceEq, Int.reduceBEq, Int.reduceBNe, eb, Go.undef] | (with_reducible refine And.intro (by omega) ?_) | (refine adrawG_f rfl ?_) | (clear hK; clear K))
      · have bR := bR hr
        simp only [mapQ] at bR
        rw [hr] at R1
        rw [bR] at Y2
        refine awp_draw (by kernel_rfl) (by decide) ?_
        repeat (first | (with_reducible first | refine Stp.up ?_ | refine fun (K : AS → Prop) hK => ?_ | refine adrawE_k (by decide) ?_ | refine adrawE_eff (by decide) ?_ | refine abox_plain (by decide) ?_ | refine abox_al ?_ | refine abox_st ?_ | refine adrawG_k (by decide) ?_ | refine adrawG_e (by decide) ?_) | (with_reducible refine hK _ ?_; clear hK; clear K) | simp only [go_sem, Nat.reduceAdd, Nat.reduceSub, Nat.reduceMul, Nat.reduceLeDiff, Nat.reduceEqDiff, Nat.reduceLT, Int.reduceToNat, ↓reduceIte, reduceCtorEq, Int.reduceLE, Int.reduceLT, Int.reduceNeg, Int.reduceEq, Int.reduceBEq, Int.reduceBNe, eb] | (with_reducible refine And.intro (by omega) ?_) | (refine adrawG_f rfl ?_) | (clear hK; clear K))
        refine ACallS.one E1 ?_
        repeat (first | (with_reducible first | refine Stp.up ?_ | refine fun (K : AS → Prop) hK => ?_ | refine adrawE_k (by decide) ?_ | refine adrawE_eff (by decide) ?_ | refine abox_plain (by decide) ?_ | refine abox_al ?_ | refine abox_st ?_ | refine adrawG_k (by decide) ?_ | refine adrawG_e (by decide) ?_) | (with_reducible refine hK _ ?_; clear hK; clear K) | simp only [go_sem, Nat.reduceAdd, Nat.reduceSub, Nat.reduceMul, Nat.reduceLeDiff, Nat.reduceEqDiff, Nat.reduceLT, Int.reduceToNat, ↓reduceIte, reduceCtorEq, Int.reduceLE, Int.reduceLT, Int.reduceNeg, Int.reduceEq, Int.reduceBEq, Int.reduceBNe, eb] | (with_reducible refine And.intro (by omega) ?_) | (refine adrawG_f rfl ?_) | (clear hK; clear K))
        refine ACallS.one E2 ?_
        repeat (first | (with_reducible first | refine Stp.up ?_ | refine fun (K : AS → Prop) hK => ?_ | refine adrawE_k (by decide) ?_ | refine adrawE_eff (by decide) ?_ | refine abox_plain (by decide) ?_ | refine abox_al ?_ | refine abox_st ?_ | refine adrawG_k (by decide) ?_ | refine adrawG_e (by decide) ?_) | (with_reducible refine hK _ ?_; clear hK; clear K) | simp only [go_sem, Nat.reduceAdd, Nat.reduceSub, Nat.reduceMul, Nat.reduceLeDiff, Nat.reduceEqDiff, Nat.reduceLT, Int.reduceToNat, ↓reduceIte, reduceCtorEq, Int.reduceLE, Int.reduceLT, Int.reduceNeg, Int.reduceEq, Int.reduceBEq, Int.reduceBNe, eb, bE] | (with_reducible refine And.intro (by omega) ?_) | (refine adrawG_f rfl ?_) | (clear hK; clear K))
        refine ACallS.one R1 ?_
        repeat (first | (with_reducible first | refine Stp.up ?_ | refine fun (K : AS → Prop) hK => ?_ | refine adrawE_k (by decide) ?_ | refine adrawE_eff (by decide) ?_ | refine abox_plain (by decide) ?_ | refine abox_al ?_ | refine abox_st ?_ | refine adrawG_k (by decide) ?_ | refine adrawG_e (by decide) ?_) | (with_reducible refine hK _ ?_; clear hK; clear K) | simp only [go_sem, Nat.reduceAdd, Nat.reduceSub, Nat.reduceMul, Nat.reduceLeDiff, Nat.reduceEqDiff, Nat.reduceLT, Int.reduceToNat, ↓reduceIte, reduceCtorEq, Int.reduceLE, Int.reduceLT, Int.reduceNeg, Int.reduceEq, Int.reduceBEq, Int.reduceBNe, eb, Go.undef] | (with_reducible refine And.intro (by omega) ?_) | (refine adrawG_f rfl ?_) | (clear hK; clear K))
        refine ACallS.one Y2 ?_
        repeat (first | (with_reducible first | refine Stp.up ?_ | refine fun (K : AS → Prop) hK => ?_ | refine adrawE_k (by decide) ?_ | refine adrawE_eff (by decide) ?_ | refine abox_plain (by decide) ?_ | refine abox_al ?_ | refine abox_st ?_ | refine adrawG_k (by decide) ?_ | refine adrawG_e (by decide) ?_) | (with_reducible refine hK _ ?_; clear hK; clear K) | simp only [go_sem, Nat.reduceAdd, Nat.reduceSub, Nat.reduceMul, Nat.reduceLeDiff, Nat.reduceEqDiff, Nat.reduceLT, Int.reduceToNat, ↓reduceIte, reduceCtorEq, Int.reduceLE, Int.reduceLT, Int.reduceNeg, Int.reduceEq, Int.reduceBEq, Int.reduceBNe, eb, Go.undef] | (with_reducible refine And.intro (by omega) ?_) | (refine adrawG_f rfl ?_) | (clear hK; clear K))
        refine ACallS.one Z2 ?_
        repeat (first | (with_reducible first | refine Stp.up ?_ | refine fun (K : AS → Prop) hK => ?_ | refine adrawE_k (by decide) ?_ | refine adrawE_eff (by decide) ?_ | refine abox_plain (by decide) ?_ | refine abox_al ?_ | refine abox_st ?_ | refine adrawG_k (by decide) ?_ | refine adrawG_e (by decide) ?_) | (with_reducible refine hK _ ?_; clear hK; clear K) | simp only [go_sem, Nat.reduceAdd, Nat.reduceSub, Nat.reduceMul, Nat.reduceLeDiff, Nat.reduceEqDiff, Nat.reduceLT, Int.reduceToNat, ↓reduceIte, reduceCtorEq, Int.reduceLE, Int.reduceLT, Int.reduceNeg, Int.reduceEq, Int.reduceBEq, Int.reduceBNe, eb] | (with_reducible refine And.intro (by omega) ?_) | (refine adrawG_f rfl ?_) | (clear hK; clear K))
        refine ACallS.one Z1 ?_
        repeat (first | (with_reducible first | refine Stp.up ?_ | refine fun (K : AS → Prop) hK => ?_ | refine adrawE_k (by decide) ?_ | refine adrawE_eff (by decide) ?_ | refine abox_plain (by decide) ?_ | refine abox_al ?_ | refine abox_st ?_ | refine adrawG_k (by decide) ?_ | refine adrawG_e (by decide) ?_) | (with_reducible refine hK _ ?_; clear hK; clear K) | simp only [go_sem, Nat.reduceAdd, Nat.reduceSub, Nat.reduceMul, Nat.reduceLeDiff, Nat.reduceEqDiff, Nat.reduceLT, Int.reduceToNat, ↓reduceIte, reduceCtorEq, Int.reduceLE, Int.reduceLT, Int.reduceNeg, Int.reduceEq, Int.reduceBEq, Int.reduceBNe, eb, Go.undef] | (with_reducible refine And.intro (by omega) ?_) | (refine adrawG_f rfl ?_) | (clear hK; clear K))
end Go.Proofs.Yteihcfhdhkamfaa
