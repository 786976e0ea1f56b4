/- kinescopelaw11.TreeRenames: the walk. -/
import Derived.Test.YtldnlbcibmmbbaaRLawTells
import Derived.Test.YtldnlbcibmmbbaaROverB
import Derived.Test.YtldnlbcibmmbbaaRRef11e
import Derived.Test.YtldnlbcibmmbbaaROnceN
set_option linter.unusedSimpArgs false
set_option linter.unusedVariables false
namespace Go.Proofs.Ytldnlbcibmmbbaa
open Go.RowKit

theorem overQueryZ_c : Call1 Try.prog 11 [.agg [.v (.slice none 0 0), .v (.slice none 0 0), .v (.slice none 0 0), .v (.int .i64 0), .v (.int .i64 0)]] (.v (.tuple #[])) :=
 .of_ret (by kernel_rfl) rfl (fun D nu w vargs hr => by
  obtain ⟨x, rfl, hx⟩ := ras_one hr
  cases hx with
  | agg _ xs h1 h2 h3 =>
  obtain ⟨xs⟩ := xs
  match xs, h1 with
  | [x0, x1, x2, x3, x4], _ =>
  have r0 := (h2 0 _ x0 rfl rfl).v_eq
  have r1 := (h2 1 _ x1 rfl rfl).v_eq
  have r2 := (h2 2 _ x2 rfl rfl).v_eq
  have r3 := (h2 3 _ x3 rfl rfl).v_eq
  have r4 := (h2 4 _ x4 rfl rfl).v_eq
  subst r0; subst r1; subst r2; subst r3; subst r4
  refine (overQuery_w (S := fun _ => False) (w := w) (fun b h => h.elim) .nil .nil .nil).mono ?_
  rintro e w' ⟨rfl, hO⟩
  exact ⟨rfl, hO.os, hO.tape, hO.output, hO.size, fun k hk => hO.same k hk (fun h => h)⟩)
theorem solid_lentE1 (x : Ex) : solidL (lentE x) = true := by
 induction x using Ex.ind with
 | h k s l ih =>
  rw [lentE_eq]
  simp only [solidL, AV.solid, Bool.and_true, Bool.true_and, Nat.reduceLT, decide_true]
  exact solidR_app (solidR_of (fun r hr => by obtain ⟨x, hx, rfl⟩ := List.mem_map.1 hr; exact ih x hx)) rfl
theorem solid_lentP (l : List Pat) : (AV.slc 8 (l.map lentP ++ marksOf markP) l.length).solid = true := by
 simp only [AV.solid, Nat.reduceLT, decide_true, Bool.true_and]
 refine solidR_app (solidR_map _ (fun p => ?_) l) rfl
 simp only [lentP, solidL, AV.solid, Bool.and_true, Bool.true_and, Nat.reduceLT, decide_true]
 exact solidR_app (solidR_map _ solid_lentE1 _) rfl
theorem solid_lentC (l : List Cnd) : (AV.slc 13 (l.map encC ++ marksOf markC) l.length).solid = true := by
 simp only [AV.solid, Nat.reduceLT, decide_true, Bool.true_and]
 exact solidR_app (solidR_map _ (fun p => rfl) l) rfl
theorem solid_lentO (l : List Opd) : (AV.slc 6 (l.map encO ++ marksOf markO) l.length).solid = true := by
 simp only [AV.solid, Nat.reduceLT, decide_true, Bool.true_and]
 exact solidR_app (solidR_map _ (fun p => rfl) l) rfl
theorem solid_lentT (l : List ByteArray) : (AV.slc 1 (l.map encS ++ marksOf markT) l.length).solid = true := by
 simp only [AV.solid, Nat.reduceLT, decide_true, Bool.true_and]
 exact solidR_app (solidR_map _ (fun p => rfl) l) rfl
theorem solid_encE1 (x : Ex) : solidL (encE x) = true := by
 induction x using Ex.ind with
 | h k s l ih =>
  rw [encE_eq]
  simp only [solidL, AV.solid, Bool.and_true, Bool.true_and, Nat.reduceLT, decide_true]
  exact solidR_of (fun r hr => by obtain ⟨x, hx, rfl⟩ := List.mem_map.1 hr; exact ih x hx)
theorem solid_encP (l : List Pat) : (AV.slc 8 (l.map encP) l.length).solid = true := by
 simp only [AV.solid, Nat.reduceLT, decide_true, Bool.true_and]
 refine solidR_map _ (fun p => ?_) l
 simp only [encP, solidL, AV.solid, Bool.and_true, Bool.true_and, Nat.reduceLT, decide_true]
 exact solidR_map _ solid_encE1 _
theorem solid_encC (l : List Cnd) : (AV.slc 13 (l.map encC) l.length).solid = true := by
 simp only [AV.solid, Nat.reduceLT, decide_true, Bool.true_and]
 exact solidR_map _ (fun p => rfl) l
theorem solid_encO (l : List Opd) : (AV.slc 6 (l.map encO) l.length).solid = true := by
 simp only [AV.solid, Nat.reduceLT, decide_true, Bool.true_and]
 exact solidR_map _ (fun p => rfl) l
theorem solid_encT (l : List ByteArray) : (AV.slc 1 (l.map encS) l.length).solid = true := by
 simp only [AV.solid, Nat.reduceLT, decide_true, Bool.true_and]
 exact solidR_map _ (fun p => rfl) l
theorem LeA.rows {A : Nat → Prop} {α : Type} {z : Nat} {f g : α → List AV} {xs : List α} {more : List (List AV)} (h : ∀ x, x ∈ xs → (f x).length = (g x).length ∧ ∀ (j : Nat) c c', (f x)[j]? = some c → (g x)[j]? = some c' → LeA A c c') : LeA A (.slc z (xs.map f ++ more) xs.length) (.slc z (xs.map g) xs.length) := by
 have key : ∀ (i : Nat) r r', (xs.map f ++ more)[i]? = some r → (xs.map g)[i]? = some r' → r.length = r'.length ∧ ∀ (j : Nat) c c', r[j]? = some c → r'[j]? = some c' → LeA A c c' := fun i r r' h1 h2 => by
  have hi : i < xs.length := by simpa using (List.getElem?_eq_some_iff.1 h2).1
  rw [List.getElem?_append_left (by simpa using hi)] at h1
  rw [List.getElem?_map, List.getElem?_eq_getElem hi] at h1 h2
  cases h1; cases h2
  exact h _ (List.getElem_mem hi)
 exact .slc z _ _ _ (by simp) (by simp) (fun i r r' h1 h2 => (key i r r' h1 h2).1) (fun i j r r' c c' h1 h2 h3 h4 => (key i r r' h1 h2).2 j c c' h3 h4)
theorem leA_lentE (A : Nat → Prop) (x : Ex) : (lentE x).length = (encW A x).length ∧ ∀ (j : Nat) c c', (lentE x)[j]? = some c → (encW A x)[j]? = some c' → LeA A c c' := by
 induction x using Ex.ind with
 | h k s l ih =>
  rw [lentE_eq, encW_eq]
  refine ⟨rfl, fun j c c' h1 h2 => ?_⟩
  match j with
  | 0 => cases h1; cases h2; exact .refl _
  | 1 => cases h1; cases h2; exact .ev _ rfl
  | 2 => cases h1; cases h2; exact .rows ih
  | j + 3 => cases h1
theorem leA_lentP (A : Nat → Prop) (l : List Pat) : LeA A (.slc 8 (l.map lentP ++ marksOf markP) l.length) (.slc 8 (l.map (encPw A)) l.length) := .rows (fun p _ => ⟨rfl, fun j c c' h1 h2 => by
 match j with
 | 0 => cases h1; cases h2; exact .refl _
 | 1 => cases h1; cases h2; exact .refl _
 | 2 => cases h1; cases h2; exact .refl _
 | 3 => cases h1; cases h2; exact .refl _
 | 4 => cases h1; cases h2; exact .refl _
 | 5 => cases h1; cases h2; exact .refl _
 | 6 => cases h1; cases h2; exact .ev _ rfl
 | 7 => cases h1; cases h2; exact .rows (fun x _ => leA_lentE A x)
 | j + 8 => cases h1⟩)
theorem leA_self (A : Nat → Prop) {α : Type} {z : Nat} (f : α → List AV) (l : List α) (more : List (List AV)) : LeA A (.slc z (l.map f ++ more) l.length) (.slc z (l.map f) l.length) := .rows (fun x _ => ⟨rfl, fun j c c' h1 h2 => by rw [h1] at h2; cases h2; exact .refl _⟩)
theorem lens_map {q : Qry} {n : Nat} {f : ByteArray → ByteArray} (h : q.lens n) : (mapQ f q).lens n := by
 obtain ⟨h1, h2, h3, h4⟩ := h
 refine ⟨by simpa [mapQ] using h1, by simpa [mapQ] using h2, by simpa [mapQ] using h3, fun p hp => ?_⟩
 obtain ⟨p0, h0, rfl⟩ := List.mem_map.1 hp
 exact h4 p0 h0
theorem le_strs (l : List ByteArray) : Le (.slc 1 (l.map encS ++ marksOf markT) l.length) (.slc 1 (l.map encS) l.length) := .rows (fun _ _ => .refl _)

set_option maxRecDepth 100000 in
set_option maxHeartbeats 8000000 in
theorem lawRenames_c (q : Qry) (a b : List ByteArray) (hq : q.small) (oq : q.ok) (ha : a.length ≤ 140737488355328) (hb : b.length ≤ 140737488355328) : Call1 Try.prog 3 [.agg (encQ q), strsA a, strsA b] (.v (.bool true)) := by
 have S1 := size11_c q hq
 have W := awake11_c
 have eAB : IntKind.i64.wrap ((a.length : Int) + (b.length : Int)) = ((a.length + b.length : Nat) : Int) := by rw [wrap_id (by omega) (by omega)]; omega
 simp only [encQ] at S1
 simp only [encQ, strsA]
 (refine Call1.enter Try.func3 rfl (by kernel_rfl) (by kernel_rfl) rfl (by first | rfl | (simp only [go_sem, Bool.and_self, Bool.and_true, Bool.true_and])) (by first | rfl | (simp only [go_sem, Bool.and_self, Bool.and_true, Bool.true_and])) ?_; simp only [Try.ntmps3, Try.results3, List.length_cons, List.length_nil, Nat.reduceAdd, Nat.reduceSub, List.replicate_succ, List.replicate_zero, List.cons_append, List.nil_append])
 repeat (first | (with_reducible first | refine Stp.up ?_ | refine fun (K : AK) hK => ?_ | (refine hK _ ?_; clear hK K)) | simp only [go_sem] | with_reducible refine wA ?_ | clear hK K)
 refine ACallV.one S1 ?_
 repeat (first | (with_reducible first | refine Stp.up ?_ | refine fun (K : AK) hK => ?_ | (refine hK _ ?_; clear hK K)) | simp only [go_sem] | with_reducible refine wA ?_ | clear hK K)
 refine AIf.part (fun h1 => ?_) (fun h1 => ?_)
 ·repeat' (first | (with_reducible first | refine Stp.up ?_ | refine fun (K : AK) hK => ?_ | (refine hK _ ?_; clear hK K)) | simp only [go_sem, h1, Go.undef] | with_reducible refine wA ?_ | clear hK K | (with_reducible refine ACallV.one (by assumption) ?_) | (with_reducible refine ACallS.one (by assumption) ?_) | (refine AIf.part (fun hb => ?_) (fun hb => ?_) <;> simp only [hb, go_sem, h1, Go.undef]) | (refine AIf.part (fun hb => ?_) (fun hb => ?_)) | (with_reducible refine ABoth.mk ?_ ?_))
 ·repeat (first | (with_reducible first | refine Stp.up ?_ | refine fun (K : AK) hK => ?_ | (refine hK _ ?_; clear hK K)) | simp only [go_sem, h1, eAB] | with_reducible refine wA ?_ | clear hK K)
  refine AIf.part (fun h2 => ?_) (fun h2 => ?_)
  ·repeat' (first | (with_reducible first | refine Stp.up ?_ | refine fun (K : AK) hK => ?_ | (refine hK _ ?_; clear hK K)) | simp only [go_sem, h2, Go.undef] | with_reducible refine wA ?_ | clear hK K | (with_reducible refine ACallV.one (by assumption) ?_) | (with_reducible refine ACallS.one (by assumption) ?_) | (refine AIf.part (fun hb => ?_) (fun hb => ?_) <;> simp only [hb, go_sem, h2, Go.undef]) | (refine AIf.part (fun hb => ?_) (fun hb => ?_)) | (with_reducible refine ABoth.mk ?_ ?_))
  ·have b1 : szQ q ≤ 400 := by (try simp only [bne_iff_ne, ne_eq, bne_eq_false_iff_eq, beq_iff_eq, beq_eq_false_iff_ne, decide_eq_false_iff_not, Bool.not_eq_eq_eq_not, Int.natCast_inj, Int.ofNat_lt, Int.ofNat_le] at h1); omega
   have b2 : a.length + b.length ≤ 400 := by (try simp only [bne_iff_ne, ne_eq, bne_eq_false_iff_eq, beq_iff_eq, beq_eq_false_iff_ne, decide_eq_false_iff_not, Bool.not_eq_eq_eq_not, Int.natCast_inj, Int.ofNat_lt, Int.ofNat_le] at h2); omega
   have n1 := q_lens b1
   have L1 := lentQuery_c q n1
   have L2 := lentTexts_c a (by omega)
   have L3 := lentTexts_c b (by omega)
   simp only [encQ, lentQ] at L1
   repeat ((fail_if_success (with_reducible refine stopS (i := 4) ?_)); first | (with_reducible first | refine Stp.up ?_ | refine fun (K : AK) hK => ?_ | (refine hK _ ?_; clear hK K)) | simp only [go_sem, h2] | with_reducible refine wA ?_ | clear hK K)
   refine ACallV.one L1 ?_
   repeat ((fail_if_success (with_reducible refine stopS (i := 4) ?_)); first | (with_reducible first | refine Stp.up ?_ | refine fun (K : AK) hK => ?_ | (refine hK _ ?_; clear hK K)) | simp only [go_sem, h2] | with_reducible refine wA ?_ | clear hK K)
   refine ACallV.one L2 ?_
   repeat ((fail_if_success (with_reducible refine stopS (i := 4) ?_)); first | (with_reducible first | refine Stp.up ?_ | refine fun (K : AK) hK => ?_ | (refine hK _ ?_; clear hK K)) | simp only [go_sem, h2] | with_reducible refine wA ?_ | clear hK K)
   refine ACallV.one L3 ?_
   repeat ((fail_if_success (with_reducible refine stopS (i := 4) ?_)); first | (with_reducible first | refine Stp.up ?_ | refine fun (K : AK) hK => ?_ | (refine hK _ ?_; clear hK K)) | simp only [go_sem, h2] | with_reducible refine wA ?_ | clear hK K)
   have K1 := keptQuery_c q n1
   have K2 := keptTexts_c a (by omega)
   have K3 := keptTexts_c b (by omega)
   simp only [encQ, lentQ] at K1
   by_cases hok : b.length = a.length ∧ a.Nodup
   ·obtain ⟨hl, hnd⟩ := hok
    have R2 := rename11_of q a b _ n1 hl (by omega) (by simp only [AV.wf, wfL, wf_encQ, Bool.and_self]) (fun _ => rfl) (fun h => absurd hnd h)
    have Sm := same11_c (mapQ (renN a b) q) (mapQ (renN a b) q) (lens_map n1)
    rw [(qryEq _ _).2 rfl] at Sm
    simp only [encQ, strsA] at R2 Sm
    refine awp_over3 rfl (by kernel_rfl) (fun c h => by cases h) (fun c h => by cases h) rfl rfl (by kernel_rfl)
     (fun A => ⟨frm 76 [(1, .wit (pK A (.slc 1 (a.map encS) a.length)) (.slc 1 (a.map encS) a.length)), (2, .wit (pK A (.slc 1 (b.map encS) b.length)) (.slc 1 (b.map encS) b.length)), (3, .ptr 0 0 5 0 0), (6, .v (.bool false)), (7, .ptr 1 0 5 0 0),
       (8, .wit (pK A (.slc 1 (a.map encS ++ marksOf markT) a.length)) (.slc 1 (a.map encS) a.length)), (9, .wit (pK A (.slc 1 (b.map encS ++ marksOf markT) b.length)) (.slc 1 (b.map encS) b.length))],
      [some ⟨26, 5, false, [[.wit (pK A (.slc 8 (q.pats.map encP) q.pats.length)) (.slc 8 (q.pats.map encP) q.pats.length), .wit (pK A (.slc 13 (q.conds.map encC) q.conds.length)) (.slc 13 (q.conds.map encC) q.conds.length), .wit (pK A (.slc 6 (q.ret.map encO) q.ret.length)) (.slc 6 (q.ret.map encO) q.ret.length), .v (.int .i64 q.range), .v (.int .i64 q.slide)]]⟩,
       some ⟨26, 5, false, [[.wit (pK A (.slc 8 (q.pats.map lentP ++ marksOf markP) q.pats.length)) (.slc 8 (q.pats.map (encPw A)) q.pats.length), .wit (pK A (.slc 13 (q.conds.map encC ++ marksOf markC) q.conds.length)) (.slc 13 (q.conds.map encC) q.conds.length), .wit (pK A (.slc 6 (q.ret.map encO ++ marksOf markO) q.ret.length)) (.slc 6 (q.ret.map encO) q.ret.length), .wit (evA A) (.v (.int .i64 q.range)), .v (.int .i64 q.slide)]]⟩], .no⟩)
     (fun A => wrapS_of rfl ?_ ?_ rfl) (fun A => ?_)
    ·simp only [frm, List.foldl_cons, List.foldl_nil, List.replicate_succ, List.replicate_zero, List.set_cons_zero, List.set_cons_succ, RelL, RelR, RelO]
     repeat' (first | exact True.intro | refine And.intro ?_ ?_ | exact Wp.undef _ | exact Wp.same _ | exact rfl | exact Wp.ev _ rfl | exact Wp.wit _ _ _ _ (solid_encT _) (.refl _) | exact Wp.wit _ _ _ _ (solid_lentT _) (leA_self A _ _ _) | exact Wp.wit _ _ _ _ (solid_encP _) (.refl _) | exact Wp.wit _ _ _ _ (solid_encC _) (.refl _) | exact Wp.wit _ _ _ _ (solid_encO _) (.refl _) | exact Wp.wit _ _ _ _ (solid_lentP _) (leA_lentP A _) | exact Wp.wit _ _ _ _ (solid_lentC _) (leA_self A _ _ _) | exact Wp.wit _ _ _ _ (solid_lentO _) (leA_self A _ _ _))
    ·simp only [frm, List.foldl_cons, List.foldl_nil, List.replicate_succ, List.replicate_zero, List.set_cons_zero, List.set_cons_succ, RelL, RelR, RelO]
     repeat' (first | exact True.intro | refine And.intro ?_ ?_ | exact Wp.undef _ | exact Wp.same _ | exact rfl | exact Wp.ev _ rfl | exact Wp.wit _ _ _ _ (solid_encT _) (.refl _) | exact Wp.wit _ _ _ _ (solid_lentT _) (leA_self A _ _ _) | exact Wp.wit _ _ _ _ (solid_encP _) (.refl _) | exact Wp.wit _ _ _ _ (solid_encC _) (.refl _) | exact Wp.wit _ _ _ _ (solid_encO _) (.refl _) | exact Wp.wit _ _ _ _ (solid_lentP _) (leA_lentP A _) | exact Wp.wit _ _ _ _ (solid_lentC _) (leA_self A _ _ _) | exact Wp.wit _ _ _ _ (solid_lentO _) (leA_self A _ _ _))
    ·have C1 := (renameW_c A q a b n1 hl (by omega) ((onceN_iff a).2 hnd)).le (args' := [.agg [.wit (pK A (.slc 8 (q.pats.map lentP ++ marksOf markP) q.pats.length)) (.slc 8 (q.pats.map (encPw A)) q.pats.length), .wit (pK A (.slc 13 (q.conds.map encC ++ marksOf markC) q.conds.length)) (.slc 13 (q.conds.map encC) q.conds.length), .wit (pK A (.slc 6 (q.ret.map encO ++ marksOf markO) q.ret.length)) (.slc 6 (q.ret.map encO) q.ret.length), .wit (evA A) (.v (.int .i64 q.range)), .v (.int .i64 q.slide)],
       .wit (pK A (.slc 1 (a.map encS ++ marksOf markT) a.length)) (.slc 1 (a.map encS) a.length), .wit (pK A (.slc 1 (b.map encS ++ marksOf markT) b.length)) (.slc 1 (b.map encS) b.length)])
      (by simp only [wfL, AV.wf, wf_encPw, wf_encC, wf_encO, wf_encS, Bool.and_self])
      (.cons (LeL.agg (.cons (.wit _ _ _ (.refl _)) (.cons (.wit _ _ _ (.refl _)) (.cons (.wit _ _ _ (.refl _)) (.cons (.refl _) (.cons (.refl _) .nil)))))) (.cons (.wit _ _ _ (.refl _)) (.cons (.wit _ _ _ (.refl _)) .nil)))
     have C2 := R2.le (args' := [.agg [.wit (pK A (.slc 8 (q.pats.map encP) q.pats.length)) (.slc 8 (q.pats.map encP) q.pats.length), .wit (pK A (.slc 13 (q.conds.map encC) q.conds.length)) (.slc 13 (q.conds.map encC) q.conds.length), .wit (pK A (.slc 6 (q.ret.map encO) q.ret.length)) (.slc 6 (q.ret.map encO) q.ret.length), .v (.int .i64 q.range), .v (.int .i64 q.slide)],
       .wit (pK A (.slc 1 (a.map encS) a.length)) (.slc 1 (a.map encS) a.length), .wit (pK A (.slc 1 (b.map encS) b.length)) (.slc 1 (b.map encS) b.length)])
      (by simp only [wfL, AV.wf, wf_encP, wf_encC, wf_encO, wf_encS, Bool.and_self])
      (.cons (LeL.agg (.cons (.wit _ _ _ (.refl _)) (.cons (.wit _ _ _ (.refl _)) (.cons (.wit _ _ _ (.refl _)) (.cons (.refl _) (.cons (.refl _) .nil)))))) (.cons (.wit _ _ _ (.refl _)) (.cons (.wit _ _ _ (.refl _)) .nil)))
     have C3 := Sm.le (args' := [.agg (encQf A (mapQ (renN a b) q)), .agg (encQ (mapQ (renN a b) q))]) (by simp only [wfL, AV.wf, wf_encQf, wf_encQ, Bool.and_self]) (.cons (le_encQf A _).agg (.cons (.refl _) .nil))
     simp only [encQ, encQf] at C1 C2 C3
     refine awpL_cons (fun K hK => ?_)
     simp only [frm, List.foldl_cons, List.foldl_nil, List.replicate_succ, List.replicate_zero, List.length_cons, List.length_nil, Nat.reduceAdd]
     repeat (first | (with_reducible first | refine Stp.up ?_ | refine fun (K : AK) hK => ?_ | (refine hK _ ?_; clear hK K)) | simp only [go_sem] | with_reducible refine wA ?_ | clear hK K)
     refine ACallV.one C1 ?_
     repeat (first | (with_reducible first | refine Stp.up ?_ | refine fun (K : AK) hK => ?_ | (refine hK _ ?_; clear hK K)) | simp only [go_sem] | with_reducible refine wA ?_ | clear hK K)
     refine awpL_cons (fun K hK => ?_)
     repeat (first | (with_reducible first | refine Stp.up ?_ | refine fun (K : AK) hK => ?_ | (refine hK _ ?_; clear hK K)) | simp only [go_sem] | with_reducible refine wA ?_ | clear hK K)
     refine ACallV.one C2 ?_
     repeat (first | (with_reducible first | refine Stp.up ?_ | refine fun (K : AK) hK => ?_ | (refine hK _ ?_; clear hK K)) | simp only [go_sem] | with_reducible refine wA ?_ | clear hK K)
     refine awpL_cons (fun K hK => ?_)
     repeat (first | (with_reducible first | refine Stp.up ?_ | refine fun (K : AK) hK => ?_ | (refine hK _ ?_; clear hK K)) | simp only [go_sem] | with_reducible refine wA ?_ | clear hK K)
     refine ACallV.one C3 ?_
     repeat (first | (with_reducible first | refine Stp.up ?_ | refine fun (K : AK) hK => ?_ | (refine hK _ ?_; clear hK K)) | simp only [go_sem] | with_reducible refine wA ?_ | clear hK K)
     refine awpL_nil ?_
     repeat (first | (with_reducible first | refine Stp.up ?_ | refine fun (K : AK) hK => ?_ | (refine hK _ ?_; clear hK K)) | simp only [go_sem] | with_reducible refine wA ?_ | clear hK K)
     refine ⟨⟨frm 76 [(1, .slc 1 (a.map encS) a.length), (2, .slc 1 (b.map encS) b.length), (3, .ptr 0 0 5 0 0), (6, .v (.bool false)), (7, .ptr 1 0 5 0 0), (8, .slc 1 (a.map encS ++ marksOf markT) a.length), (9, .slc 1 (b.map encS ++ marksOf markT) b.length), (14, .v (.bool true))],
      [some ⟨26, 5, false, [[.slc 8 (q.pats.map encP) q.pats.length, .slc 13 (q.conds.map encC) q.conds.length, .slc 6 (q.ret.map encO) q.ret.length, .v (.int .i64 q.range), .v (.int .i64 q.slide)]]⟩,
       some ⟨26, 5, false, [[.slc 8 (q.pats.map lentP ++ marksOf markP) q.pats.length, .slc 13 (q.conds.map encC ++ marksOf markC) q.conds.length, .slc 6 (q.ret.map encO ++ marksOf markO) q.ret.length, .v (.int .i64 q.range), .v (.int .i64 q.slide)]]⟩, none, none], .no⟩,
      overC_query (A := A) rfl rfl rfl rfl rfl ?_ ?_, ?_⟩
     ·simp only [frm, List.foldl_cons, List.foldl_nil, List.replicate_succ, List.replicate_zero, List.set_cons_zero, List.set_cons_succ, RelL, RelR, RelO, go_sem]
      repeat' (first | exact True.intro | refine And.intro ?_ ?_ | exact Sv.undef _ | exact Sv.v _ | exact Sv.ptr _ _ _ _ _ | exact Sv.ev _ | exact rfl | exact Sv.wit _ _ (by simp only [AV.wf, wfR_app, wf_lentP, wf_encP, wf_encC, wf_encO, wf_encS, wf_marksP, wf_marksC, wf_marksO, wf_marksT, Bool.and_self]))
     ·simp only [frm, List.foldl_cons, List.foldl_nil, List.replicate_succ, List.replicate_zero, List.set_cons_zero, List.set_cons_succ, RelL, RelR, RelO]
      repeat' (first | exact True.intro | refine And.intro ?_ ?_ | exact Sv.undef _ | exact Sv.v _ | exact Sv.ptr _ _ _ _ _ | exact Sv.ev _ | exact rfl | exact Sv.wit _ _ (by simp only [AV.wf, wfR_app, wf_lentP, wf_encP, wf_encC, wf_encO, wf_encS, wf_marksP, wf_marksC, wf_marksO, wf_marksT, Bool.and_self]))
     ·clear C1 C2 C3 R2 Sm
      simp only [frm, List.foldl_cons, List.foldl_nil, List.replicate_succ, List.replicate_zero, List.length_cons, List.length_nil, Nat.reduceAdd]
      repeat' (first | (with_reducible first | refine Stp.up ?_ | refine fun (K : AK) hK => ?_ | (refine hK _ ?_; clear hK K)) | simp only [go_sem, Go.undef] | with_reducible refine wA ?_ | clear hK K | (with_reducible refine ACallV.one (by assumption) ?_) | (with_reducible refine ACallS.one (by assumption) ?_) | (refine AIf.part (fun hb => ?_) (fun hb => ?_) <;> simp only [hb, go_sem, Go.undef]) | (refine AIf.part (fun hb => ?_) (fun hb => ?_)) | (with_reducible refine ABoth.mk ?_ ?_))
   ·have C1 := (renameErr_c q a b (by omega) (by
     by_cases hl : b.length = a.length
     ·exact .inr (fun h => hok ⟨hl, h⟩)
     ·exact .inl hl)).le (args' := [.agg (lentQ q), .slc 1 (a.map encS ++ marksOf markT) a.length, .slc 1 (b.map encS ++ marksOf markT) b.length]) (by simp only [wfL, AV.wf, wf_lentQ, wfR_app, wf_encS, wf_marksT, Bool.and_self]) (.cons (le_lentQ q).agg (.cons (le_strs a) (.cons (le_strs b) .nil)))
    have C2 : Call1 Try.prog 9 [.agg (encQ q), strsA a, strsA b] (.tup [.agg zQ, .v (.int .i64 2)]) := by
     by_cases hl : b.length = a.length
     ·exact rename11_of q a b _ n1 hl (by omega) rfl (fun h => absurd ⟨hl, h⟩ hok) (fun _ => rfl)
     ·exact rename11_len q a b hl
    have C3 := same11_c ⟨[], [], [], 0, 0⟩ ⟨[], [], [], 0, 0⟩ ⟨by decide, by decide, by decide, by simp⟩
    rw [(qryEq _ _).2 rfl] at C3
    have C3' := C3.le (args' := [.agg zQ, .agg zQ]) rfl (.cons (LeL.agg (.cons (.nil 8) (.cons (.nil 13) (.cons (.nil 6) (.cons (.refl _) (.cons (.refl _) .nil)))))) (.cons (LeL.agg (.cons (.nil 8) (.cons (.nil 13) (.cons (.nil 6) (.cons (.refl _) (.cons (.refl _) .nil)))))) .nil))
    have C4 := overQueryZ_c
    clear C3
    simp only [zQ, encQ, lentQ, strsA] at C1 C2 C3'
    repeat' (first | (with_reducible first | refine Stp.up ?_ | refine fun (K : AK) hK => ?_ | (refine hK _ ?_; clear hK K)) | simp only [go_sem, Go.undef] | with_reducible refine wA ?_ | clear hK K | (with_reducible refine ACallV.one (by assumption) ?_) | (with_reducible refine ACallS.one (by assumption) ?_) | (refine AIf.part (fun hb => ?_) (fun hb => ?_) <;> simp only [hb, go_sem, Go.undef]) | (refine AIf.part (fun hb => ?_) (fun hb => ?_)) | (with_reducible refine ABoth.mk ?_ ?_))
end Go.Proofs.Ytldnlbcibmmbbaa
