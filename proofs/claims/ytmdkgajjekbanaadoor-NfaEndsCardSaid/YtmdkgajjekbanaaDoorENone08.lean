/- kinescopelaw08.none: what is told of no Nfa. -/
import Derived.Test.YtmdkgajjekbanaaDoorEStill
set_option linter.unusedSimpArgs false
set_option linter.unusedVariables false
namespace Go.Proofs.YtmdkgajjekbanaaDoor
open Go.RowKit

set_option maxRecDepth 100000 in
theorem nilLen_c : Call1 Tryd.prog 16 [.v (.pointer none)] (.v (.int .i64 0)) := by
 (refine Call1.enter Tryd.func16 rfl (by kernel_rfl) (by kernel_rfl) rfl (by first | rfl | (simp only [go_sem, Bool.and_self, Bool.and_true, Bool.true_and])) (by first | rfl | (simp only [go_sem, Bool.and_self, Bool.and_true, Bool.true_and])) ?_; simp only [Tryd.ntmps16, Tryd.results16, List.length_cons, List.length_nil, Nat.reduceAdd, Nat.reduceSub, List.replicate_succ, List.replicate_zero, List.cons_append, List.nil_append])
 repeat' (first | (with_reducible first | refine Stp.up ?_ | refine fun (K : AK) hK => ?_ | (refine hK _ ?_; clear hK K)) | simp only [go_sem] | clear hK K | (with_reducible refine ACallV.one (by assumption) ?_) | (with_reducible refine ACallS.one (by assumption) ?_) | (refine AIf.part (fun hb => ?_) (fun hb => ?_) <;> simp only [hb, go_sem]) | (refine AIf.part (fun hb => ?_) (fun hb => ?_)) | (with_reducible refine ABoth.mk ?_ ?_))
set_option maxRecDepth 100000 in
theorem nilLabel_c : Call1 Tryd.prog 18 [.v (.pointer none), .v (.int .i64 1)] (.v (.string ⟨#[]⟩)) := by
 have L := nilLen_c
 (refine Call1.enter Tryd.func18 rfl (by kernel_rfl) (by kernel_rfl) rfl (by first | rfl | (simp only [go_sem, Bool.and_self, Bool.and_true, Bool.true_and])) (by first | rfl | (simp only [go_sem, Bool.and_self, Bool.and_true, Bool.true_and])) ?_; simp only [Tryd.ntmps18, Tryd.results18, List.length_cons, List.length_nil, Nat.reduceAdd, Nat.reduceSub, List.replicate_succ, List.replicate_zero, List.cons_append, List.nil_append])
 repeat' (first | (with_reducible first | refine Stp.up ?_ | refine fun (K : AK) hK => ?_ | (refine hK _ ?_; clear hK K)) | simp only [go_sem, Go.undef] | clear hK K | (with_reducible refine ACallV.one (by assumption) ?_) | (with_reducible refine ACallS.one (by assumption) ?_) | (refine AIf.part (fun hb => ?_) (fun hb => ?_) <;> simp only [hb, go_sem, Go.undef]) | (refine AIf.part (fun hb => ?_) (fun hb => ?_)) | (with_reducible refine ABoth.mk ?_ ?_))
set_option maxRecDepth 100000 in
theorem nilFirst_c : Call1 Tryd.prog 14 [.v (.pointer none)] (.v (.slice none 0 0)) := by
 (refine Call1.enter Tryd.func14 rfl (by kernel_rfl) (by kernel_rfl) rfl (by first | rfl | (simp only [go_sem, Bool.and_self, Bool.and_true, Bool.true_and])) (by first | rfl | (simp only [go_sem, Bool.and_self, Bool.and_true, Bool.true_and])) ?_; simp only [Tryd.ntmps14, Tryd.results14, List.length_cons, List.length_nil, Nat.reduceAdd, Nat.reduceSub, List.replicate_succ, List.replicate_zero, List.cons_append, List.nil_append])
 repeat' (first | (with_reducible first | refine Stp.up ?_ | refine fun (K : AK) hK => ?_ | (refine hK _ ?_; clear hK K)) | simp only [go_sem] | clear hK K | (with_reducible refine ACallV.one (by assumption) ?_) | (with_reducible refine ACallS.one (by assumption) ?_) | (refine AIf.part (fun hb => ?_) (fun hb => ?_) <;> simp only [hb, go_sem]) | (refine AIf.part (fun hb => ?_) (fun hb => ?_)) | (with_reducible refine ABoth.mk ?_ ?_))
set_option maxRecDepth 100000 in
theorem nilLast_c : Call1 Tryd.prog 24 [.v (.pointer none)] (.v (.slice none 0 0)) := by
 (refine Call1.enter Tryd.func24 rfl (by kernel_rfl) (by kernel_rfl) rfl (by first | rfl | (simp only [go_sem, Bool.and_self, Bool.and_true, Bool.true_and])) (by first | rfl | (simp only [go_sem, Bool.and_self, Bool.and_true, Bool.true_and])) ?_; simp only [Tryd.ntmps24, Tryd.results24, List.length_cons, List.length_nil, Nat.reduceAdd, Nat.reduceSub, List.replicate_succ, List.replicate_zero, List.cons_append, List.nil_append])
 repeat' (first | (with_reducible first | refine Stp.up ?_ | refine fun (K : AK) hK => ?_ | (refine hK _ ?_; clear hK K)) | simp only [go_sem] | clear hK K | (with_reducible refine ACallV.one (by assumption) ?_) | (with_reducible refine ACallS.one (by assumption) ?_) | (refine AIf.part (fun hb => ?_) (fun hb => ?_) <;> simp only [hb, go_sem]) | (refine AIf.part (fun hb => ?_) (fun hb => ?_)) | (with_reducible refine ABoth.mk ?_ ?_))
set_option maxRecDepth 100000 in
theorem nilFollow_c : Call1 Tryd.prog 21 [.v (.pointer none), .v (.int .i64 1)] (.v (.slice none 0 0)) := by
 have L := nilLen_c
 (refine Call1.enter Tryd.func21 rfl (by kernel_rfl) (by kernel_rfl) rfl (by first | rfl | (simp only [go_sem, Bool.and_self, Bool.and_true, Bool.true_and])) (by first | rfl | (simp only [go_sem, Bool.and_self, Bool.and_true, Bool.true_and])) ?_; simp only [Tryd.ntmps21, Tryd.results21, List.length_cons, List.length_nil, Nat.reduceAdd, Nat.reduceSub, List.replicate_succ, List.replicate_zero, List.cons_append, List.nil_append])
 repeat' (first | (with_reducible first | refine Stp.up ?_ | refine fun (K : AK) hK => ?_ | (refine hK _ ?_; clear hK K)) | simp only [go_sem, Go.undef] | clear hK K | (with_reducible refine ACallV.one (by assumption) ?_) | (with_reducible refine ACallS.one (by assumption) ?_) | (refine AIf.part (fun hb => ?_) (fun hb => ?_) <;> simp only [hb, go_sem, Go.undef]) | (refine AIf.part (fun hb => ?_) (fun hb => ?_)) | (with_reducible refine ABoth.mk ?_ ?_))
set_option maxRecDepth 100000 in
theorem nilStep_c (rows : List (List AV)) (hw : wfR 0 rows = true) (n : Nat) (s : ByteArray) : Call1 Tryd.prog 27 [.v (.pointer none), .slc 1 rows n, .v (.string s)] (.v (.slice none 0 0)) := by
 (refine Call1.enter Tryd.func27 rfl (by kernel_rfl) (by kernel_rfl) rfl (by simp only [go_sem, wfL, AV.wf, Bool.and_self, Bool.and_true, Bool.true_and, hw]) (by simp only [go_sem, wfL, AV.wf, wf_encS, Bool.and_self, Bool.and_true, Bool.true_and, hw]) ?_; simp only [Tryd.ntmps27, Tryd.results27, List.length_cons, List.length_nil, Nat.reduceAdd, Nat.reduceSub, List.replicate_succ, List.replicate_zero, List.cons_append, List.nil_append])
 repeat' (first | (with_reducible first | refine Stp.up ?_ | refine fun (K : AK) hK => ?_ | (refine hK _ ?_; clear hK K)) | simp only [go_sem] | clear hK K | (with_reducible refine ACallV.one (by assumption) ?_) | (with_reducible refine ACallS.one (by assumption) ?_) | (refine AIf.part (fun hb => ?_) (fun hb => ?_) <;> simp only [hb, go_sem]) | (refine AIf.part (fun hb => ?_) (fun hb => ?_)) | (with_reducible refine ABoth.mk ?_ ?_))
set_option maxRecDepth 100000 in
theorem nilEmpty_c : Call1 Tryd.prog 17 [.v (.pointer none)] (.v (.bool false)) := by
 (refine Call1.enter Tryd.func17 rfl (by kernel_rfl) (by kernel_rfl) rfl (by first | rfl | (simp only [go_sem, Bool.and_self, Bool.and_true, Bool.true_and])) (by first | rfl | (simp only [go_sem, Bool.and_self, Bool.and_true, Bool.true_and])) ?_; simp only [Tryd.ntmps17, Tryd.results17, List.length_cons, List.length_nil, Nat.reduceAdd, Nat.reduceSub, List.replicate_succ, List.replicate_zero, List.cons_append, List.nil_append])
 repeat' (first | (with_reducible first | refine Stp.up ?_ | refine fun (K : AK) hK => ?_ | (refine hK _ ?_; clear hK K)) | simp only [go_sem, Go.undef] | clear hK K | (with_reducible refine ACallV.one (by assumption) ?_) | (with_reducible refine ACallS.one (by assumption) ?_) | (refine AIf.part (fun hb => ?_) (fun hb => ?_) <;> simp only [hb, go_sem, Go.undef]) | (refine AIf.part (fun hb => ?_) (fun hb => ?_)) | (with_reducible refine ABoth.mk ?_ ?_))
set_option maxRecDepth 100000 in
theorem nilTakes_c : Call1 Tryd.prog 29 [.v (.pointer none), .v (.slice none 0 0)] (.v (.bool false)) := by
 have E := nilEmpty_c
 (refine Call1.enter Tryd.func29 rfl (by kernel_rfl) (by kernel_rfl) rfl (by first | rfl | (simp only [go_sem, Bool.and_self, Bool.and_true, Bool.true_and])) (by first | rfl | (simp only [go_sem, Bool.and_self, Bool.and_true, Bool.true_and])) ?_; simp only [Tryd.ntmps29, Tryd.results29, List.length_cons, List.length_nil, Nat.reduceAdd, Nat.reduceSub, List.replicate_succ, List.replicate_zero, List.cons_append, List.nil_append])
 repeat' (first | (with_reducible first | refine Stp.up ?_ | refine fun (K : AK) hK => ?_ | (refine hK _ ?_; clear hK K)) | simp only [go_sem, Go.undef] | clear hK K | (with_reducible refine ACallV.one (by assumption) ?_) | (with_reducible refine ACallS.one (by assumption) ?_) | (refine AIf.part (fun hb => ?_) (fun hb => ?_) <;> simp only [hb, go_sem, Go.undef]) | (refine AIf.part (fun hb => ?_) (fun hb => ?_)) | (with_reducible refine ABoth.mk ?_ ?_))
def zN : NSt := ⟨[], List.replicate 25 0#32, 0#32, false⟩
theorem zN_ok : NOk zN := by
 refine ⟨by simp [zN], by simp [zN], fun p q h => ?_, fun q h => by simp [zN] at h⟩
 rw [zN, List.getD_eq_getElem?_getD, List.getElem?_replicate] at h
 split at h <;> simp at h
def zC : List AV := .v (.slice none 0 0) :: (List.replicate 26 (.v (.int .u32 0)) ++ [.v (.bool false)])
theorem zC_eq : nfaV zN = .slc 1 [] 0 :: (List.replicate 26 (.v (.int .u32 0)) ++ [.v (.bool false)]) := by
 simp [nfaV, zN, encM, List.replicate]
theorem Call1.leP {P : Program} {f : FuncId} {cs ds : List AV} {args args' : List AV} {r : AV} (h : Call1 P f (.vp ds :: args) r) (hw : wfL 0 (.vp cs :: args') = true) (hc : LeL cs ds) (hl : LeL args' args) : Call1 P f (.vp cs :: args') r :=
 h.args hw (fun D nu w xs k => by
  have h1 : ∀ x, RA D nu [] w (.vp cs) x → RA D nu [] w (.vp ds) x := fun x hx => by
   cases hx with
   | vp _ b off g k1 k2 k3 k4 =>
    have up : ∀ (j : Nat) d, ds[j]? = some d → ∃ c, cs[j]? = some c := fun j d hd => ⟨_, List.getElem?_eq_getElem (by have := (List.getElem?_eq_some_iff.1 hd).1; have := hc.1; omega)⟩
    refine .vp ds b off g k1 (fun j d hd => ?_) (fun j d hd => ?_) (fun j d hd => ?_)
    ·obtain ⟨c, q⟩ := up j d hd; exact k2 j c q
    ·obtain ⟨c, q⟩ := up j d hd; exact (k3 j c q).le (hc.2 j c d q hd)
    ·obtain ⟨c, q⟩ := up j d hd; exact k4 j c q
  refine ⟨by rw [← k.len]; simp [hl.1], fun i c x hi hx => ?_⟩
  cases i with
  | zero => cases hi; exact h1 x (k.at' 0 _ x rfl hx)
  | succ i =>
   simp only [List.getElem?_cons_succ] at hi
   have hlt : i < args'.length := by have := (List.getElem?_eq_some_iff.1 hi).1; have := hl.1; omega
   exact (k.at' (i + 1) args'[i] x (by simp [hlt]) hx).le (hl.2 i _ c (List.getElem?_eq_getElem hlt) hi))
theorem zC_le : LeL zC (nfaV zN) := by
 rw [zC_eq, zC]
 exact .cons (.nil 1) (.refl _)
set_option maxRecDepth 100000 in
set_option maxHeartbeats 8000000 in
theorem none08_c : Call1 Tryd.prog 36 [] (.v (.bool true)) := by
 have a1 := nilLen_c
 have a2 := nilLabel_c
 have a3 := nilFirst_c
 have a4 := nilLast_c
 have a5 := nilFollow_c
 have a6 := nilStep_c [[.v (.int .i64 0)]] rfl 1 ⟨#[97]⟩
 have a7 := nilEmpty_c
 have a8 := nilTakes_c
 have hb : bitsM 0#32 = [] := by decide
 have hs : stepM zN (fromM zN [0]) ⟨#[97]⟩ = 0#32 := by decide
 have ht : takesM zN [⟨#[97]⟩] = false := by decide
 have b1 := (nLen_c zN).leP (cs := zC) (args' := []) rfl zC_le .nil
 have b2 := (nLabel_c zN 1 (by decide)).leP (cs := zC) (args' := [.v (.int .i64 1)]) rfl zC_le (.refl _)
 have b3 := (nFirst_c zN rfl).leP (cs := zC) (args' := []) rfl zC_le .nil
 have b4 := (nLast_c zN rfl).leP (cs := zC) (args' := []) rfl zC_le .nil
 have b5 := (nFollow_c zN 1 rfl (by decide)).leP (cs := zC) (args' := [.v (.int .i64 1)]) rfl zC_le (.refl _)
 have b6 := (nStep_c zN_ok [0] ⟨#[97]⟩ (by decide)).leP (cs := zC) (args' := [.slc 1 [[.v (.int .i64 0)]] 1, .v (.string ⟨#[97]⟩)]) rfl zC_le (.refl _)
 have b7 := (nEmpty_c zN rfl).leP (cs := zC) (args' := []) rfl zC_le .nil
 have b8 := (nTakes_c zN_ok [⟨#[97]⟩] (by decide)).leP (cs := zC) (args' := [.slc 1 [[.v (.string ⟨#[97]⟩)]] 1]) rfl zC_le (.refl _)
 rw [hs] at b6
 rw [ht] at b8
 have e1 : labAt zN 1 = ⟨#[]⟩ := rfl
 have e2 : folAt zN 1 = [] := rfl
 have e3 : zN.fs.getD 0 0#32 = 0#32 := rfl
 have e4 : zN.la = 0#32 := rfl
 have e5 : zN.labs.length = 0 := rfl
 have e6 : zN.em = false := rfl
 have ez : ((0 : Nat) : Int) = 0 := rfl
 have k1 : (IntKind.i64.wrap (0 + 0) == 0) = true := by decide
 have k3 : (((⟨#[]⟩ ++ ⟨#[]⟩ : ByteArray)).toList == (⟨#[]⟩ : ByteArray).toList) = true := by decide +kernel
 have k2 : (IntKind.i64.wrap (0 + 0)) = 0 := by decide
 simp only [e1, e2, e3, e4, e5, e6, ez, hb, encN, List.map_nil, List.length_nil] at b1 b2 b3 b4 b5 b6 b7
 simp only [zC, List.replicate_succ, List.replicate_zero, List.cons_append, List.nil_append] at b1 b2 b3 b4 b5 b6 b7 b8
 (refine Call1.enter Tryd.func36 rfl (by kernel_rfl) (by kernel_rfl) rfl (by first | rfl | (simp only [go_sem, Bool.and_self, Bool.and_true, Bool.true_and])) (by first | rfl | (simp only [go_sem, Bool.and_self, Bool.and_true, Bool.true_and])) ?_; simp only [Tryd.ntmps36, Tryd.results36, List.length_cons, List.length_nil, Nat.reduceAdd, Nat.reduceSub, List.replicate_succ, List.replicate_zero, List.cons_append, List.nil_append])
 repeat ((fail_if_success (with_reducible refine stopR (i := 2) ?_)); first | (with_reducible first | refine Stp.up ?_ | refine fun (K : AK) hK => ?_ | (refine hK _ ?_; clear hK K)) | simp only [go_sem, Go.undef] | with_reducible refine wA ?_ | clear hK K)
 refine awp_still (by kernel_rfl) ?_
 repeat ((fail_if_success (with_reducible refine stopR (i := 3) ?_)); first | (with_reducible first | refine Stp.up ?_ | refine fun (K : AK) hK => ?_ | (refine hK _ ?_; clear hK K)) | simp only [go_sem, Go.undef] | with_reducible refine wA ?_ | clear hK K)
 refine awp_still (by kernel_rfl) ?_
 simp only [List.append_eq, List.cons_append, List.nil_append]
 repeat (first | (with_reducible first | refine Stp.up ?_ | refine fun (K : AK) hK => ?_ | (refine hK _ ?_; clear hK K)) | simp only [go_sem, Go.undef, k1, k2] | with_reducible refine wA ?_ | clear hK K)
 refine ACallS.one a1 ?_
 repeat (first | (with_reducible first | refine Stp.up ?_ | refine fun (K : AK) hK => ?_ | (refine hK _ ?_; clear hK K)) | simp only [go_sem, Go.undef, k1, k2] | with_reducible refine wA ?_ | clear hK K)
 refine ACallS.one b1 ?_
 repeat (first | (with_reducible first | refine Stp.up ?_ | refine fun (K : AK) hK => ?_ | (refine hK _ ?_; clear hK K)) | simp only [go_sem, Go.undef, k1, k2] | with_reducible refine wA ?_ | clear hK K)
 refine ACallS.one a2 ?_
 repeat (first | (with_reducible first | refine Stp.up ?_ | refine fun (K : AK) hK => ?_ | (refine hK _ ?_; clear hK K)) | simp only [go_sem, Go.undef, k1, k2] | with_reducible refine wA ?_ | clear hK K)
 refine ACallS.one b2 ?_
 repeat (first | (with_reducible first | refine Stp.up ?_ | refine fun (K : AK) hK => ?_ | (refine hK _ ?_; clear hK K)) | simp only [go_sem, Go.undef, k1, k2] | with_reducible refine wA ?_ | clear hK K)
 refine ⟨by decide, ?_⟩
 repeat (first | (with_reducible first | refine Stp.up ?_ | refine fun (K : AK) hK => ?_ | (refine hK _ ?_; clear hK K)) | simp only [go_sem, Go.undef, ez, k1, k2, k3] | with_reducible refine wA ?_ | clear hK K)
 refine ACallS.one a3 ?_
 repeat (first | (with_reducible first | refine Stp.up ?_ | refine fun (K : AK) hK => ?_ | (refine hK _ ?_; clear hK K)) | simp only [go_sem, Go.undef, ez, k1, k2, k3] | with_reducible refine wA ?_ | clear hK K)
 refine ACallS.one a4 ?_
 repeat (first | (with_reducible first | refine Stp.up ?_ | refine fun (K : AK) hK => ?_ | (refine hK _ ?_; clear hK K)) | simp only [go_sem, Go.undef, ez, k1, k2, k3] | with_reducible refine wA ?_ | clear hK K)
 refine ACallS.one a5 ?_
 repeat (first | (with_reducible first | refine Stp.up ?_ | refine fun (K : AK) hK => ?_ | (refine hK _ ?_; clear hK K)) | simp only [go_sem, Go.undef, ez, k1, k2, k3] | with_reducible refine wA ?_ | clear hK K)
 refine ACallS.one a6 ?_
 repeat (first | (with_reducible first | refine Stp.up ?_ | refine fun (K : AK) hK => ?_ | (refine hK _ ?_; clear hK K)) | simp only [go_sem, Go.undef, ez, k1, k2, k3] | with_reducible refine wA ?_ | clear hK K)
 refine ACallS.one b3 ?_
 repeat (first | (with_reducible first | refine Stp.up ?_ | refine fun (K : AK) hK => ?_ | (refine hK _ ?_; clear hK K)) | simp only [go_sem, Go.undef, ez, k1, k2, k3] | with_reducible refine wA ?_ | clear hK K)
 refine ACallS.one b4 ?_
 repeat (first | (with_reducible first | refine Stp.up ?_ | refine fun (K : AK) hK => ?_ | (refine hK _ ?_; clear hK K)) | simp only [go_sem, Go.undef, ez, k1, k2, k3] | with_reducible refine wA ?_ | clear hK K)
 refine ACallS.one b5 ?_
 repeat (first | (with_reducible first | refine Stp.up ?_ | refine fun (K : AK) hK => ?_ | (refine hK _ ?_; clear hK K)) | simp only [go_sem, Go.undef, ez, k1, k2, k3] | with_reducible refine wA ?_ | clear hK K)
 refine ACallS.one b6 ?_
 repeat (first | (with_reducible first | refine Stp.up ?_ | refine fun (K : AK) hK => ?_ | (refine hK _ ?_; clear hK K)) | simp only [go_sem, Go.undef, ez, k1, k2, k3] | with_reducible refine wA ?_ | clear hK K)
 refine ACallS.one a7 ?_
 repeat (first | (with_reducible first | refine Stp.up ?_ | refine fun (K : AK) hK => ?_ | (refine hK _ ?_; clear hK K)) | simp only [go_sem, Go.undef, ez, k1, k2, k3] | with_reducible refine wA ?_ | clear hK K)
 refine ACallS.one b7 ?_
 repeat (first | (with_reducible first | refine Stp.up ?_ | refine fun (K : AK) hK => ?_ | (refine hK _ ?_; clear hK K)) | simp only [go_sem, Go.undef, ez, k1, k2, k3] | with_reducible refine wA ?_ | clear hK K)
 refine ACallS.one a8 ?_
 repeat (first | (with_reducible first | refine Stp.up ?_ | refine fun (K : AK) hK => ?_ | (refine hK _ ?_; clear hK K)) | simp only [go_sem, Go.undef, ez, k1, k2, k3] | with_reducible refine wA ?_ | clear hK K)
 refine ACallS.one b8 ?_
 repeat (first | (with_reducible first | refine Stp.up ?_ | refine fun (K : AK) hK => ?_ | (refine hK _ ?_; clear hK K)) | simp only [go_sem, Go.undef, ez, k1, k2, k3] | with_reducible refine wA ?_ | clear hK K)
end Go.Proofs.YtmdkgajjekbanaaDoor
