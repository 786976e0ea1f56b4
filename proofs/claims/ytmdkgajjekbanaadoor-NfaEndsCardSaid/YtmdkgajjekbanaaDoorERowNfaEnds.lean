/- kinescopelaw08.NfaEnds tells true. -/
import Derived.Test.YtmdkgajjekbanaaDoorEStill
import Derived.Test.YtmdkgajjekbanaaDoorENone08
import Derived.Test.YtmdkgajjekbanaaDoorESmall08
import Derived.Test.YtmdkgajjekbanaaDoorEOnceC
import Derived.Test.YtmdkgajjekbanaaDoorRows
import Derived.Test.YtmdkgajjekbanaaDoorCards
import Derived.Test.YtmdkgajjekbanaaDoorTie
import Derived.Test.YtmdkgajjekbanaaDoorESets
import Derived.WalkKit
import Derived.ProofKit
import Derived.OpenShut
import Derived.Stop.Joined
import Derived.SevenTiedAt
import Derived.Carry
set_option linter.unusedSimpArgs false
set_option linter.unusedVariables false
namespace Go.Proofs.YtmdkgajjekbanaaDoor
open Go.RowKit

def abc (n : Nat) : ByteArray := if n % 3 = 0 then ⟨#[97]⟩ else if n % 3 = 1 then ⟨#[98]⟩ else ⟨#[99]⟩
theorem abc_ok (n : Nat) : okT (abc n) := by unfold abc okT; (repeat' split) <;> decide
theorem abc_at (n : Nat) : List.getD [[AV.v (.string ⟨#[97]⟩)], [.v (.string ⟨#[98]⟩)], [.v (.string ⟨#[99]⟩)]] (n % 3) [] = [.v (.string (abc n))] := by
 unfold abc
 have : n % 3 = 0 ∨ n % 3 = 1 ∨ n % 3 = 2 := by omega
 rcases this with h | h | h <;> rw [h] <;> rfl
def wdA (k : Nat) : List (List AV) := (List.range k).map fun i => labA (abc i)
def wdX (k : Nat) : List Ex := (List.range k).map fun i => labX (abc i)
theorem wdA_len (k : Nat) : (wdA k).length = k := by simp [wdA]
theorem wdA_succ (k : Nat) : wdA (k + 1) = wdA k ++ [labA (abc k)] := by simp [wdA, List.range_succ]
theorem le_wd (k : Nat) : LeL (ofA 3 (wdA k)) (encE (ofX 3 (wdX k))) := le_ofA 3 (by simp [wdA, wdX]) fun i r x h1 h2 => by
 simp only [wdA, wdX, List.getElem?_map] at h1 h2
 cases hi : (List.range k)[i]? with
 | none => rw [hi] at h1; cases h1
 | some j => rw [hi] at h1 h2; cases h1; cases h2; exact le_labA _
theorem exsOk_map {f : Nat → Ex} (h : ∀ i, (f i).ok) : ∀ l : List Nat, exsOk (l.map f)
 | [] => trivial
 | a :: l => ⟨h a, exsOk_map h l⟩
theorem wdX_ok (k : Nat) : (ofX 3 (wdX k)).ok := ofX_ok 3 (exsOk_map (fun i => labX_ok (abc_ok i)) _)
theorem wf_wdA (n k : Nat) : wfR n (wdA k) = true := wfR_map _ (fun _ => rfl) _
def aba : List (List AV) := [[.v (.string ⟨#[97]⟩)], [.v (.string ⟨#[98]⟩)], [.v (.string ⟨#[97]⟩)]]
theorem le_aba {k : Nat} (h : k ≤ 3) : ∃ w : List ByteArray, Le (.slc 1 aba k) (strsA w) := by
 have key : ∀ (w : List ByteArray) (more : List (List AV)), aba = w.map encS ++ more → Le (.slc 1 aba w.length) (strsA w) := fun w more e => by
  rw [e, strsA]
  exact Le.rows (more := more) (fun x _ => LeL.refl _)
 have : k = 0 ∨ k = 1 ∨ k = 2 ∨ k = 3 := by omega
 rcases this with rfl | rfl | rfl | rfl
 ·exact ⟨[], key [] _ rfl⟩
 ·exact ⟨[_], key [⟨#[97]⟩] _ rfl⟩
 ·exact ⟨_, key [⟨#[97]⟩, ⟨#[98]⟩] _ rfl⟩
 ·exact ⟨_, key [⟨#[97]⟩, ⟨#[98]⟩, ⟨#[97]⟩] [] rfl⟩
set_option maxRecDepth 100000 in
theorem lofNil_c : Call1 Tryd.prog 34 [.v (.int .i64 3), .v (.slice none 0 0)] (.agg [.v (.int .i64 3), .v (.string ⟨#[]⟩), .v (.slice none 0 0)]) := by
 (refine Call1.enter Tryd.func34 rfl (by kernel_rfl) (by kernel_rfl) rfl (by first | rfl | (simp only [go_sem, Bool.and_self, Bool.and_true, Bool.true_and])) (by first | rfl | (simp only [go_sem, Bool.and_self, Bool.and_true, Bool.true_and])) ?_; simp only [Tryd.ntmps34, Tryd.results34, List.length_cons, List.length_nil, Nat.reduceAdd, Nat.reduceSub, List.replicate_succ, List.replicate_zero, List.cons_append, List.nil_append])
 repeat' (first | (with_reducible first | refine Stp.up ?_ | refine fun (K : AK) hK => ?_ | (refine hK _ ?_; clear hK K)) | simp only [go_sem] | clear hK K | (with_reducible refine ACallV.one (by assumption) ?_) | (with_reducible refine ACallS.one (by assumption) ?_) | (refine AIf.part (fun hb => ?_) (fun hb => ?_) <;> simp only [hb, go_sem]) | (refine AIf.part (fun hb => ?_) (fun hb => ?_)) | (with_reducible refine ABoth.mk ?_ ?_))
 (refine AFz.of 40 rfl ?_; simp only [go_sem])
set_option maxRecDepth 100000 in
set_option maxHeartbeats 4000000 in
theorem lawNfaEnds_c : Call1 Tryd.prog 5 [] (.v (.bool true)) := by
 have W := awake08_c
 have NN := none08_c
 have LN := lofNil_c
 have E0 := (lawNfaTells_c (.mk 0 ⟨#[]⟩ []) 0 (by simp only [Ex.ok, exsOk]; exact ⟨by unfold okT; decide, trivial⟩)).le (args' := [.agg [.v (.int .i64 0), .v (.string ⟨#[]⟩), .v (.slice none 0 0)], .v (.int .i64 0)]) rfl (.cons (LeL.agg (by rw [encE_eq]; exact .cons (.refl _) (.cons (.refl _) (.cons (.nil 3) .nil)))) (.refl _))
 have SM := fun n (hn : n < 100000) => small_c 2 n (by decide) hn
 have T := fun n p => (lawNfaTells_c (smX 2 n) p (smX_ok 2 n)).le (args' := [.agg (smA 2 n), .v (.int .i64 p)]) (by simp only [wfL, AV.wf, wf_smA, Bool.and_self]) (.cons (le_smA 2 n).agg (.refl _))
 have S := fun n a b c s k (hk : k ≤ 3) => Exists.elim (le_aba hk) fun w hw => (lawNfaSteps_c (smX 2 n) [a, b, c] s w (smX_ok 2 n)).le (args' := [.agg (smA 2 n), .slc 1 [[.v (.int .i64 a)], [.v (.int .i64 b)], [.v (.int .i64 c)]] 3, .v (.string s), .slc 1 aba k]) (by simp only [wfL, AV.wf, wf_smA, Bool.and_self, Bool.and_true, wfR]; rfl) (.cons (le_smA 2 n).agg (.cons (.refl _) (.cons (.refl _) (.cons hw .nil))))
 have WT := fun k p => (lawNfaTells_c (ofX 3 (wdX k)) p (wdX_ok k)).le (args' := [.agg (ofA 3 (wdA k)), .v (.int .i64 p)]) (by simp only [wfL, AV.wf, wf_ofA _ _ _ (wf_wdA _ _), Bool.and_self]) (.cons (le_wd k).agg (.refl _))
 have WS := fun k l s w => (lawNfaSteps_c (ofX 3 (wdX k)) l s w (wdX_ok k)).le (args' := [.agg (ofA 3 (wdA k)), .slc 1 (l.map encI) l.length, .v (.string s), strsA w]) (by simp only [wfL, AV.wf, wf_ofA _ _ _ (wf_wdA _ _), Bool.and_self, Bool.and_true, Bool.true_and, strsA, Bool.and_eq_true]; exact ⟨wfR_map _ (fun _ => rfl) _, wfR_map _ (fun _ => rfl) _⟩) (.cons (le_wd k).agg (.refl _))
 (refine Call1.enter Tryd.func5 rfl (by kernel_rfl) (by kernel_rfl) rfl (by first | rfl | (simp only [go_sem, Bool.and_self, Bool.and_true, Bool.true_and])) (by first | rfl | (simp only [go_sem, Bool.and_self, Bool.and_true, Bool.true_and])) ?_; simp only [Tryd.ntmps5, Tryd.results5, List.length_cons, List.length_nil, Nat.reduceAdd, Nat.reduceSub, List.replicate_succ, List.replicate_zero, List.cons_append, List.nil_append])
 repeat (first | (with_reducible first | refine Stp.up ?_ | refine fun (K : AK) hK => ?_ | refine adrawG_k (by decide) ?_ | refine adrawG_e (by decide) ?_ | (refine hK _ ?_; clear hK K)) | simp only [go_sem] | with_reducible refine wA ?_ | clear hK K)
 refine awp_loopF (ι := Nat) (fun n => [(1, .v (.int .i64 n))]) (fun _ => []) (fun n => 5000 - n) (fun n => n ≤ 4101) 0 (by omega) ?_ ?_
 ·(refine wk_mk ?_ ?_ ?_ <;> simp only [frm, List.foldl_cons, List.foldl_nil, List.replicate_succ, List.replicate_zero, WkT, WkO, AV.v.injEq, Value.int.injEq, Value.bool.injEq, Value.string.injEq, AV.vec.injEq, AV.ptr.injEq, true_or, or_true, false_or, or_false, AObj.mk.injEq, forall_eq_apply_imp_iff, forall_eq, forall_eq', go_sem])
  rfl
 intro n hn K hK
 simp only [frm, List.foldl_cons, List.foldl_nil, List.replicate_succ, List.replicate_zero, go_sem]
 repeat ((fail_if_success (with_reducible refine stopR (i := 4) ?_)); first | (with_reducible first | refine Stp.up ?_ | refine fun (K : AK) hK => ?_ | refine adrawG_k (by decide) ?_ | refine adrawG_e (by decide) ?_ | (refine hK _ ?_; clear hK K)) | simp only [go_sem] | with_reducible refine wA ?_ | clear hK K)
 refine AIf.part (fun h => ?_) (fun h => ?_)
 ·have hlt : n < 4096 := by (try simp only [bne_iff_ne, ne_eq, bne_eq_false_iff_eq, beq_iff_eq, beq_eq_false_iff_ne, decide_eq_true_eq, decide_eq_false_iff_not, Bool.not_eq_eq_eq_not, Int.natCast_inj, Int.ofNat_lt, Int.ofNat_le] at h); omega
  have C0 := SM n (by omega)
  have T0 := fun p => T n p
  have S0 := fun a b c => S n a b c (abc n) (n % 4) (by omega)
  simp only [aba] at S0
  obtain ⟨a, b, c, hx⟩ := smA_three 2 n
  have hw : wfL 0 [a, b, c] = true := hx ▸ wf_smA 0 2 n
  have hw1 : ∀ m, a.wf m = true ∧ b.wf m = true ∧ c.wf m = true := fun m => by
   have : wfL m [a, b, c] = true := hx ▸ wf_smA m 2 n
   simpa [wfL] using this
  simp only [hx] at C0 T0 S0
  repeat (first | (with_reducible first | refine Stp.up ?_ | refine fun (K : AK) hK => ?_ | refine adrawG_k (by decide) ?_ | refine adrawG_e (by decide) ?_ | (refine hK _ ?_; clear hK K)) | simp only [go_sem] | with_reducible refine wA ?_ | clear hK K)
  refine ACallV.one C0 ?_
  repeat ((fail_if_success (with_reducible refine stopR (i := 5) ?_)); first | (with_reducible first | refine Stp.up ?_ | refine fun (K : AK) hK => ?_ | refine adrawG_k (by decide) ?_ | refine adrawG_e (by decide) ?_ | (refine hK _ ?_; clear hK K)) | simp only [go_sem] | with_reducible refine wA ?_ | clear hK K)
  refine awp_drawG [] [] (by decide +kernel) (by kernel_rfl) ?_
  have eM9 : (n : Int).tmod 9 = ((n % 9 : Nat) : Int) := tmodN n 9
  have eM7 : (n : Int).tmod 7 = ((n % 7 : Nat) : Int) := tmodN n 7
  have eM3 : (n : Int).tmod 3 = ((n % 3 : Nat) : Int) := tmodN n 3
  have eM4 : (n : Int).tmod 4 = ((n % 4 : Nat) : Int) := tmodN n 4
  have eM5 : (n : Int).tmod 5 = ((n % 5 : Nat) : Int) := tmodN n 5
  have eQ7 : (n : Int).tdiv 7 = ((n / 7 : Nat) : Int) := tdivN n 7
  have eR7 : ((n / 7 : Nat) : Int).tmod 7 = ((n / 7 % 7 : Nat) : Int) := tmodN (n / 7) 7
  have eG := abc_at n
  have l3 : n % 3 < 3 := Nat.mod_lt _ (by decide)
  have l4 : n % 4 < 4 := Nat.mod_lt _ (by decide)
  repeat (first | (with_reducible first | refine Stp.up ?_ | refine fun (K : AK) hK => ?_ | refine adrawG_k (by decide) ?_ | refine adrawG_e (by decide) ?_ | (refine hK _ ?_; clear hK K)) | simp only [go_sem, eM9, eM7, eM3, eM4, eQ7, eR7, eG, Go.undef] | with_reducible refine wA ?_ | clear hK K)
  refine ACallS.one (T0 _) ?_
  repeat (first | (with_reducible first | refine Stp.up ?_ | refine fun (K : AK) hK => ?_ | refine adrawG_k (by decide) ?_ | refine adrawG_e (by decide) ?_ | (refine hK _ ?_; clear hK K)) | simp only [go_sem, eM9, eM7, eM3, eM4, eQ7, eR7, eG, Go.undef] | with_reducible refine wA ?_ | clear hK K)
  refine ACallS.one (S0 _ _ _) ?_
  repeat ((fail_if_success (with_reducible refine stopR (i := 3) ?_)); first | (with_reducible first | refine Stp.up ?_ | refine fun (K : AK) hK => ?_ | refine adrawG_k (by decide) ?_ | refine adrawG_e (by decide) ?_ | (refine hK _ ?_; clear hK K)) | simp only [go_sem, Go.undef] | with_reducible refine wA ?_ | clear hK K)
  refine awp_sel [] (frm 79 [(1, .v (.int .i64 n))]) [] (by simp) rfl (fun k ob h => by simp at h) ?_ (by kernel_rfl) ?_
  ·simp only [frm, List.foldl_cons, List.foldl_nil, List.replicate_succ, List.replicate_zero, go_sem]
   simp only [SelT, AV.ren, sig, go_sem]
   simp
  simp only [frm, List.foldl_cons, List.foldl_nil, List.replicate_succ, List.replicate_zero, go_sem]
  have eN1 := wrap_succ (k := n) (by omega)
  have eN5 : IntKind.i64.wrap (((n + 1 : Nat) : Int) + ((n % 5 : Nat) : Int)) = ((n + 1 + n % 5 : Nat) : Int) := by rw [wrap_id (by omega) (by omega)]; omega
  repeat (first | (with_reducible first | refine Stp.up ?_ | refine fun (K : AK) hK => ?_ | refine adrawG_k (by decide) ?_ | refine adrawG_e (by decide) ?_ | (refine hK _ ?_; clear hK K)) | simp only [go_sem, eN1, eM5, eN5, Go.undef] | with_reducible refine wA ?_ | clear hK K)
  exact LNext.mk (n + 1 + n % 5) (by omega) (by omega) (by (refine wk_mk ?_ ?_ ?_ <;> simp only [frm, List.foldl_cons, List.foldl_nil, List.replicate_succ, List.replicate_zero, WkT, WkO, AV.v.injEq, Value.int.injEq, Value.bool.injEq, Value.string.injEq, AV.vec.injEq, AV.ptr.injEq, true_or, or_true, false_or, or_false, AObj.mk.injEq, forall_eq_apply_imp_iff, forall_eq, forall_eq', go_sem]))
 ·repeat ((fail_if_success (with_reducible refine stopR (i := 8) ?_)); first | (with_reducible first | refine Stp.up ?_ | refine fun (K : AK) hK => ?_ | refine adrawG_k (by decide) ?_ | refine adrawG_e (by decide) ?_ | (refine hK _ ?_; clear hK K)) | simp only [go_sem] | with_reducible refine wA ?_ | clear hK K)
  refine ACallV.one LN ?_
  repeat ((fail_if_success (with_reducible refine stopR (i := 8) ?_)); first | (with_reducible first | refine Stp.up ?_ | refine fun (K : AK) hK => ?_ | refine adrawG_k (by decide) ?_ | refine adrawG_e (by decide) ?_ | (refine hK _ ?_; clear hK K)) | simp only [go_sem] | with_reducible refine wA ?_ | clear hK K)
  refine awp_turn (turn_cell (k := 0) (i := 0) (j := 2) 25 3 (by decide) rfl (show 0 < 3 by decide) rfl rfl) (by kernel_rfl) ?_
  repeat ((fail_if_success (with_reducible refine stopR (i := 9) ?_)); first | (with_reducible first | refine Stp.up ?_ | refine fun (K : AK) hK => ?_ | refine adrawG_k (by decide) ?_ | refine adrawG_e (by decide) ?_ | (refine hK _ ?_; clear hK K)) | simp only [go_sem] | with_reducible refine wA ?_ | clear hK K)
  refine awp_loopF (ι := Nat) (fun k => [(3, .ptr 0 0 3 0 0), (4, .v (.int .i64 k))]) (fun k => [some ⟨25, 3, false, [[.v (.int .i64 3), .v (.string ⟨#[]⟩), .vec 1 k]]⟩, some ⟨25, 3, true, wdA k⟩]) (fun k => 24 - k) (fun k => k ≤ 24) 0 (by omega) ?_ ?_
  ·(refine wk_mk ?_ ?_ ?_ <;> simp only [frm, List.foldl_cons, List.foldl_nil, List.replicate_succ, List.replicate_zero, WkT, WkO, AV.v.injEq, Value.int.injEq, Value.bool.injEq, Value.string.injEq, AV.vec.injEq, AV.ptr.injEq, true_or, or_true, false_or, or_false, AObj.mk.injEq, forall_eq_apply_imp_iff, forall_eq, forall_eq', go_sem])
   ·rfl
   ·exact ⟨rfl, rfl⟩
  intro k hk K hK
  simp only [frm, List.foldl_cons, List.foldl_nil, List.replicate_succ, List.replicate_zero, go_sem]
  repeat ((fail_if_success (with_reducible refine stopR (i := 11) ?_)); first | (with_reducible first | refine Stp.up ?_ | refine fun (K : AK) hK => ?_ | refine adrawG_k (by decide) ?_ | refine adrawG_e (by decide) ?_ | (refine hK _ ?_; clear hK K)) | simp only [go_sem] | with_reducible refine wA ?_ | clear hK K)
  refine AIf.part (fun h => ?_) (fun h => ?_)
  ·have hlt : k < 24 := by (try simp only [bne_iff_ne, ne_eq, bne_eq_false_iff_eq, beq_iff_eq, beq_eq_false_iff_ne, decide_eq_true_eq, decide_eq_false_iff_not, Bool.not_eq_eq_eq_not, Int.natCast_inj, Int.ofNat_lt, Int.ofNat_le] at h); omega
   have eM3 : (k : Int).tmod 3 = ((k % 3 : Nat) : Int) := tmodN k 3
   have eG := abc_at k
   have l3 : k % 3 < 3 := Nat.mod_lt _ (by decide)
   have LB := llabel08_c (abc k)
   have eL : (wdA k).length = k := wdA_len k
   repeat ((fail_if_success (with_reducible refine stopR (i := 11) ?_)); first | (with_reducible first | refine Stp.up ?_ | refine fun (K : AK) hK => ?_ | refine adrawG_k (by decide) ?_ | refine adrawG_e (by decide) ?_ | (refine hK _ ?_; clear hK K)) | simp only [go_sem] | with_reducible refine wA ?_ | clear hK K)
   refine awp_drawG [9, 11] [] (by decide +kernel) (by kernel_rfl) ?_
   repeat (first | (with_reducible first | refine Stp.up ?_ | refine fun (K : AK) hK => ?_ | refine adrawG_k (by decide) ?_ | refine adrawG_e (by decide) ?_ | (refine hK _ ?_; clear hK K)) | simp only [go_sem, eM3, eG, eL, Go.undef] | with_reducible refine wA ?_ | clear hK K)
   refine ACallS.one LB ?_
   repeat ((fail_if_success (with_reducible refine stopR (i := 12) ?_)); first | (with_reducible first | refine Stp.up ?_ | refine fun (K : AK) hK => ?_ | refine adrawG_k (by decide) ?_ | refine adrawG_e (by decide) ?_ | (refine hK _ ?_; clear hK K)) | simp only [go_sem, eM3, eG, eL, Go.undef] | with_reducible refine wA ?_ | clear hK K)
   have wR : ∀ m, wfR m (wdA k ++ [[.v (.int .i64 1), .v (.string (abc k)), .v (.slice none 0 0)]]) = true := fun m => by
    have := wf_wdA m (k + 1); rwa [wdA_succ] at this
   have eL2 := wdA_len (k + 1)
   rw [wdA_succ, labA] at eL2
   have T1 : ∀ p : Int, Call1 Tryd.prog 3 [.agg [.v (.int .i64 3), .v (.string ⟨#[]⟩), .slc 3 (wdA k ++ [[.v (.int .i64 1), .v (.string (abc k)), .v (.slice none 0 0)]]) (k + 1)], .v (.int .i64 p)] (.v (.bool true)) := fun p => by
    have := WT (k + 1) p; rwa [ofA, wdA_len, wdA_succ] at this
   have T2 := WS (k + 1) [0, (k : Int), 24, 25, 99, -1, 1099511627776, -9223372036854775808, 9223372036854775807] ⟨#[97]⟩ [⟨#[98]⟩]
   rw [ofA, wdA_len, wdA_succ] at T2
   simp only [strsA, encI, encS, labA, List.map_cons, List.map_nil, List.length_cons, List.length_nil, Nat.reduceAdd, Nat.zero_add] at T2
   generalize hwr : wdA k ++ [[.v (.int .i64 1), .v (.string (abc k)), .v (.slice none 0 0)]] = wr at *
   refine awp_still (by kernel_rfl) ?_
   repeat (first | (with_reducible first | refine Stp.up ?_ | refine fun (K : AK) hK => ?_ | refine adrawG_k (by decide) ?_ | refine adrawG_e (by decide) ?_ | (refine hK _ ?_; clear hK K)) | simp only [go_sem, eL2, Go.undef] | with_reducible refine wA ?_ | clear hK K)
   refine ACallS.frz (T1 _) 40 rfl (by simp only [go_sem, Nat.reduceLT, Nat.reduceLeDiff, Nat.reduceEqDiff, Nat.lt_add_one, Nat.zero_lt_one, and_self, eL2, wR]) rfl ?_
   repeat (first | (with_reducible first | refine Stp.up ?_ | refine fun (K : AK) hK => ?_ | refine adrawG_k (by decide) ?_ | refine adrawG_e (by decide) ?_ | (refine hK _ ?_; clear hK K)) | simp only [go_sem, eL2, Go.undef] | with_reducible refine wA ?_ | clear hK K)
   refine ACallS.frz T2 40 rfl (by simp only [go_sem, Nat.reduceLT, Nat.reduceLeDiff, Nat.reduceEqDiff, Nat.lt_add_one, Nat.zero_lt_one, and_self, eL2, wR]) rfl ?_
   have eN1 := wrap_succ (k := k) (by omega)
   repeat ((fail_if_success (with_reducible refine stopR (i := 10) ?_)); first | (with_reducible first | refine Stp.up ?_ | refine fun (K : AK) hK => ?_ | refine adrawG_k (by decide) ?_ | refine adrawG_e (by decide) ?_ | (refine hK _ ?_; clear hK K)) | simp only [go_sem, eL2, Go.undef] | with_reducible refine wA ?_ | clear hK K)
   repeat (first | (with_reducible first | refine Stp.up ?_ | refine fun (K : AK) hK => ?_ | refine adrawG_k (by decide) ?_ | refine adrawG_e (by decide) ?_ | (refine hK _ ?_; clear hK K)) | simp only [go_sem, eN1, Go.undef] | with_reducible refine wA ?_ | clear hK K)
   exact LNext.mk (k + 1) (by omega) (by omega) (by (refine wk_mk ?_ ?_ ?_ <;> simp only [frm, List.foldl_cons, List.foldl_nil, List.replicate_succ, List.replicate_zero, WkT, WkO, AV.v.injEq, Value.int.injEq, Value.bool.injEq, Value.string.injEq, AV.vec.injEq, AV.ptr.injEq, true_or, or_true, false_or, or_false, AObj.mk.injEq, forall_eq_apply_imp_iff, forall_eq, forall_eq', go_sem]); exact ⟨by rw [wdA_succ]; exact hwr.symm, wf_wdA _ _⟩)
  ·repeat (first | (with_reducible first | refine Stp.up ?_ | refine fun (K : AK) hK => ?_ | refine adrawG_k (by decide) ?_ | refine adrawG_e (by decide) ?_ | (refine hK _ ?_; clear hK K)) | simp only [go_sem, Go.undef] | with_reducible refine wA ?_ | clear hK K)
   refine ACallV.one NN ?_
   repeat (first | (with_reducible first | refine Stp.up ?_ | refine fun (K : AK) hK => ?_ | refine adrawG_k (by decide) ?_ | refine adrawG_e (by decide) ?_ | (refine hK _ ?_; clear hK K)) | simp only [go_sem, Go.undef] | with_reducible refine wA ?_ | clear hK K)
   refine ACallV.one E0 ?_
   repeat (first | (with_reducible first | refine Stp.up ?_ | refine fun (K : AK) hK => ?_ | refine adrawG_k (by decide) ?_ | refine adrawG_e (by decide) ?_ | (refine hK _ ?_; clear hK K)) | simp only [go_sem, Go.undef] | with_reducible refine wA ?_ | clear hK K)
   refine ACallV.one W ?_
   repeat (first | (with_reducible first | refine Stp.up ?_ | refine fun (K : AK) hK => ?_ | refine adrawG_k (by decide) ?_ | refine adrawG_e (by decide) ?_ | (refine hK _ ?_; clear hK K)) | simp only [go_sem, Go.undef] | with_reducible refine wA ?_ | clear hK K)
end Go.Proofs.YtmdkgajjekbanaaDoor

namespace Go.Proofs.YtmdkgajjekbanaaDoor
open Go.ChangeShapes Go.WideShapes Go.ChangeAt Go.WideMaps Go.WideElems Go.RowKit

namespace nfaEnds
theorem own : ownKnob Tryd.prog.godebug = none := by kernel_rfl
theorem laid : laidOutB Tryd.prog = true := by kernel_rfl
set_option maxRecDepth 100000 in
theorem contract (H : Type) (enc : TypeId × Value → H) (W : World) (args : Array Value) (ds gs : List (DataW H)) (before : List MemPlace) (base : Nat)
  (hval : ∀ (j : Nat) t v, Tryd.f5.params[j]? = some t → args[j]? = some v → Value.okWide Tryd.prog W .any base t v)
  (hW : DataW.Whole enc Tryd.prog Tryd.f5.params.toList Rows.nfaEndsSpec.vars false W args.toList ds gs before)
  (hsz : (DataW.weightsEach Tryd.prog (Tryd.f5.params.toList ++ Rows.nfaEndsSpec.plain.varTypes Tryd.prog) (ds ++ gs)).all (· ≤ reachBytes) = true)
  (hL : laidMetH Tryd.prog Rows.nfaEndsRow.laid W) :
  Calls Tryd.prog 5 args W fun e W' => ∃ v, e = .returned v ∧ Rows.nfaEndsSpec.post enc Tryd.prog Tryd.f5 false true false false W args v W' := by
 have hW' := hW
 have hlt := hW.lt
 obtain ⟨p, q, hA, hV, rfl, hfz, hnd⟩ := hW
 rw [Tryd.params5] at hA hsz hval
 obtain ⟨rfl, rfl, rfl⟩ := trodAll_none hA
 obtain ⟨rfl, rfl⟩ := trodVars_none hV
 refine ((lawNfaEnds_c).to_ret (w := W) (vargs := #[]) ⟨rfl, fun i c x hc hx => ?_⟩ (glob_laid hL)).mono fun e W' he => ?_
 ·simp at hc
 obtain ⟨rfl, hb⟩ := he
 refine ⟨_, rfl, _, _, _, [], [], [], hW', ?_, ?_, rfl, hb.frame _, fun h => by cases h⟩
 ·exact trodAll_mk1 (shut_bool Tryd.underlying4 _)
 ·exact trodAll_mk0

theorem door_met (os : Os) (args : Array Value) : laidMetH Tryd.prog Rows.nfaEndsRow.laid ((World.doorLaid Tryd.prog 400 os).forCall (fun _ _ => 0) ⟨#[], args, []⟩).memory :=
 laidMetH_of_parts3 (fuel := 8) (laidMet_of_run' 8 (by kernel_rfl) (by kernel_rfl)) (by kernel_rfl) (by kernel_rfl)
set_option maxRecDepth 100000 in
theorem lifted (os : Os) (started : os.Started) (H : Type) (enc : TypeId × Value → H) :
  ReturnsInHanded {} Tryd.checked os 5 .any (fun w args => (Rows.nfaEndsSpec.pre enc Tryd.prog Tryd.f5 [] false w args ∧ laidMetH Tryd.prog Rows.nfaEndsRow.laid w) ∧ sizedMet enc Tryd.prog Tryd.f5 (OpenSpec.ofChange Rows.nfaEndsSpec) false w args)
   (Rows.nfaEndsSpec.post enc Tryd.prog Tryd.f5 false true false false) := by
 refine returnsInHanded_of_change_and (C := Tryd.checked) (X := fun w _ => laidMetH Tryd.prog Rows.nfaEndsRow.laid w) (fun _ _ _ hh h => h.of_heap hh) own started (by kernel_rfl) Tryd.func5
  (ChangeSpec.witness_shaped (enc := enc) (C := Tryd.checked) (os := os) (X := fun w _ => laidMetH Tryd.prog Rows.nfaEndsRow.laid w) false (World.doorLaid Tryd.prog 400 os) #[] 8 rfl (World.shaped_of_RefB (by kernel_rfl) (by kernel_rfl)) (by kernel_rfl) (by kernel_rfl) (by kernel_rfl) (door_met os _)) ?_
 intro W base args ds gs before hval hW _ hsz hL _
 exact contract H enc W args ds gs before base hval hW hsz hL

theorem over : Rows.nfaEndsRow.holds Tryd.pinned (OpenSpec.ofChange Rows.nfaEndsSpec) :=
 OpenClaim.holds_of_wide 5 Tryd.f5 rfl rfl rfl rfl rfl rfl rfl ⟨rfl, rfl, rfl, rfl, rfl⟩ rfl rfl rfl rfl rfl (by kernel_rfl) Tryd.func5 (by kernel_rfl)
  (of_decide_eq_true (by kernel_rfl)) (by unfold Func.isWrapper; first | (rw [if_pos (by decide +kernel)]; kernel_rfl) | (rw [if_neg (by decide +kernel)]; exact ⟨rfl, rfl⟩))
  (fun os started H enc _ => lifted os started H enc)

theorem proved : Rows.NfaEndsCardSaid :=
 Claim7.holds_tied_plain_at .later [] [.data] true _ false
  over (fun _ h => by cases h) (by kernel_rfl) (fun _ h => by cases h) nfaEnds_row_tie rfl ⟨rfl, rfl⟩ (by kernel_rfl) rfl
  (fun f fn hf hfn => by
   obtain rfl : f = 5 := (Option.some.inj ((show Tryd.prog.funcNamed "kinescope/kinescopelaw08.NfaEnds" = some 5 by kernel_rfl).symm.trans hf)).symm
   obtain rfl : fn = Tryd.f5 := (Option.some.inj (Tryd.func5.symm.trans hfn)).symm
   exact ⟨by kernel_rfl, fun j t ht => by
    rw [Tryd.params5] at ht
    simp at ht⟩)
  (by kernel_rfl)
end nfaEnds
theorem nfaEnds_holds : Rows.NfaEndsCardSaid := nfaEnds.proved
#print axioms nfaEnds_holds
end Go.Proofs.YtmdkgajjekbanaaDoor
