/- kinescoperef08.Nfa: Label, Follow, Takes; either with an own row. -/
import Derived.Test.YtmdkgajjekbanaaDoorTNew08
import Derived.Test.YtmdkgajjekbanaaDoorTLent
import Derived.Test.YtmdkgajjekbanaaDoorTEnc
import Derived.Test.YtmdkgajjekbanaaDoorTMat
set_option linter.unusedSimpArgs false
set_option linter.unusedVariables false
namespace Go.Proofs.YtmdkgajjekbanaaDoor
open Go.RowKit

theorem encS_at {l : List ByteArray} {i : Nat} (h : i < l.length) : (l.map encS).getD i [] = [.v (.string (l.getD i ⟨#[]⟩))] := by
  rw [List.getD_eq_getElem?_getD, List.getD_eq_getElem?_getD, List.getElem?_map, List.getElem?_eq_getElem h]; rfl
def rlab (l : List ByteArray) (p : Int) : ByteArray := if 1 ≤ p ∧ p ≤ l.length then l.getD (p.toNat - 1) ⟨#[]⟩ else ⟨#[]⟩
noncomputable def rfol (x : Ex) (p : Int) : List Nat := if 1 ≤ p ∧ p ≤ (labE x).length then setN (labE x).length (folB x 0 (p.toNat - 1)) else []
set_option maxRecDepth 100000 in
set_option maxHeartbeats 4000000 in
theorem rLabel_c (x : Ex) (p : Int) (hn : (labE x).length ≤ 1000) : Call1 Tryd.prog 19 [.vp (refV x), .v (.int .i64 p)] (.v (.string (rlab (labE x) p))) := by
  have hw := wf_refV 0 x
  simp only [refV] at hw ⊢
  (refine Call1.enter Tryd.func19 rfl (by kernel_rfl) (by kernel_rfl) rfl (by simp only [go_sem, wfL, AV.wf, Bool.and_self, Bool.and_true, Bool.true_and, hw]) (by simp only [go_sem, wfL, AV.wf, wf_encS, Bool.and_self, Bool.and_true, Bool.true_and, hw]) ?_; simp only [Tryd.ntmps19, Tryd.results19, List.length_cons, List.length_nil, Nat.reduceAdd, Nat.reduceSub, List.replicate_succ, List.replicate_zero, List.cons_append, List.nil_append])
  by_cases h1 : p < 1
  · have g1 : decide (p < 1) = true := decide_eq_true h1
    rw [rlab, if_neg (by omega)]
    repeat (first | (with_reducible first | refine Stp.up ?_ | refine fun (K : AS → Prop) hK => ?_ | refine wE ?_ | refine wD ?_ | refine wK ?_ | refine wF ?_ | refine adrawG_k (by decide) ?_ | refine adrawG_e (by decide) ?_ | (refine hK _ ?_; clear hK; clear K)) | simp only [go_sem, g1, Go.undef] | (with_reducible refine And.intro (by omega) ?_) | (clear hK; clear K))
  · have g1 : decide (p < 1) = false := decide_eq_false h1
    by_cases h2 : ((labE x).length : Int) < p
    · have g2 : decide (((labE x).length : Int) < p) = true := decide_eq_true h2
      rw [rlab, if_neg (by omega)]
      repeat (first | (with_reducible first | refine Stp.up ?_ | refine fun (K : AS → Prop) hK => ?_ | refine wE ?_ | refine wD ?_ | refine wK ?_ | refine wF ?_ | refine adrawG_k (by decide) ?_ | refine adrawG_e (by decide) ?_ | (refine hK _ ?_; clear hK; clear K)) | simp only [go_sem, g1, g2, Go.undef] | (with_reducible refine And.intro (by omega) ?_) | (clear hK; clear K))
    · have g2 : decide (((labE x).length : Int) < p) = false := decide_eq_false h2
      rw [rlab, if_pos ⟨by omega, by omega⟩]
      obtain ⟨j, rfl⟩ : ∃ j : Nat, p = (j : Int) + 1 := ⟨(p - 1).toNat, by omega⟩
      have eW : IntKind.i64.wrap ((j : Int) + 1 - 1) = (j : Int) := by rw [wrap_id (by omega) (by omega)]; omega
      have eG := encS_at (l := labE x) (i := j) (by omega)
      have eT : ((j : Int) + 1).toNat - 1 = j := by omega
      rw [eT]
      repeat (first | (with_reducible first | refine Stp.up ?_ | refine fun (K : AS → Prop) hK => ?_ | refine wE ?_ | refine wD ?_ | refine wK ?_ | refine wF ?_ | refine adrawG_k (by decide) ?_ | refine adrawG_e (by decide) ?_ | (refine hK _ ?_; clear hK; clear K)) | simp only [go_sem, g1, g2, eW, eG, Go.undef] | (with_reducible refine And.intro (by omega) ?_) | (clear hK; clear K))
set_option maxRecDepth 100000 in
set_option maxHeartbeats 4000000 in
theorem rFollow_c (x : Ex) (p : Int) (hn : (labE x).length ≤ 1000) : Call1 Tryd.prog 22 [.vp (refV x), .v (.int .i64 p)] (.slc 1 (encN (rfol x p)) (rfol x p).length) := by
  have hw := wf_refV 0 x
  have hm : wfR 0 (encN (rfol x p)) = true := wfR_map _ (fun _ => rfl) _
  have S := fun g => set08_c (labE x).length g hn
  simp only [refV] at hw ⊢
  by_cases h1 : p < 1
  · have g1 : decide (p < 1) = true := decide_eq_true h1
    rw [rfol, if_neg (by omega)]
    refine CallN.to1 ?_
    (refine CallN.enter Tryd.func22 rfl (by kernel_rfl) (by kernel_rfl) rfl (by simp only [go_sem, wfL, AV.wf, Bool.and_self, Bool.and_true, Bool.true_and, hw, encN, List.map_nil, wfR]) (by simp only [go_sem, wfL, AV.wf, wf_encS, Bool.and_self, Bool.and_true, Bool.true_and, hw, encN, List.map_nil, wfR]) ?_; simp only [Tryd.ntmps22, Tryd.results22, List.length_cons, List.length_nil, Nat.reduceAdd, Nat.reduceSub, List.replicate_succ, List.replicate_zero, List.cons_append, List.nil_append])
    repeat (first | (with_reducible first | refine Stp.up ?_ | refine fun (K : AS → Prop) hK => ?_ | refine wE ?_ | refine wD ?_ | refine wK ?_ | refine wF ?_ | refine adrawG_k (by decide) ?_ | refine adrawG_e (by decide) ?_ | (refine hK _ ?_; clear hK; clear K)) | simp only [go_sem, g1, Go.undef] | (with_reducible refine And.intro (by omega) ?_) | (clear hK; clear K))
    exact AFzN.nil 1
  · have g1 : decide (p < 1) = false := decide_eq_false h1
    by_cases h2 : ((labE x).length : Int) < p
    · have g2 : decide (((labE x).length : Int) < p) = true := decide_eq_true h2
      rw [rfol, if_neg (by omega)]
      refine CallN.to1 ?_
      (refine CallN.enter Tryd.func22 rfl (by kernel_rfl) (by kernel_rfl) rfl (by simp only [go_sem, wfL, AV.wf, Bool.and_self, Bool.and_true, Bool.true_and, hw, encN, List.map_nil, wfR]) (by simp only [go_sem, wfL, AV.wf, wf_encS, Bool.and_self, Bool.and_true, Bool.true_and, hw, encN, List.map_nil, wfR]) ?_; simp only [Tryd.ntmps22, Tryd.results22, List.length_cons, List.length_nil, Nat.reduceAdd, Nat.reduceSub, List.replicate_succ, List.replicate_zero, List.cons_append, List.nil_append])
      repeat (first | (with_reducible first | refine Stp.up ?_ | refine fun (K : AS → Prop) hK => ?_ | refine wE ?_ | refine wD ?_ | refine wK ?_ | refine wF ?_ | refine adrawG_k (by decide) ?_ | refine adrawG_e (by decide) ?_ | (refine hK _ ?_; clear hK; clear K)) | simp only [go_sem, g1, g2, Go.undef] | (with_reducible refine And.intro (by omega) ?_) | (clear hK; clear K))
      exact AFzN.nil 1
    · have g2 : decide (((labE x).length : Int) < p) = false := decide_eq_false h2
      have hv := hm
      rw [rfol, if_pos ⟨by omega, by omega⟩] at hv ⊢
      (refine Call1.enter Tryd.func22 rfl (by kernel_rfl) (by kernel_rfl) rfl (by simp only [go_sem, wfL, AV.wf, Bool.and_self, Bool.and_true, Bool.true_and, hw, hv]) (by simp only [go_sem, wfL, AV.wf, wf_encS, Bool.and_self, Bool.and_true, Bool.true_and, hw, hv]) ?_; simp only [Tryd.ntmps22, Tryd.results22, List.length_cons, List.length_nil, Nat.reduceAdd, Nat.reduceSub, List.replicate_succ, List.replicate_zero, List.cons_append, List.nil_append])
      obtain ⟨j, rfl⟩ : ∃ j : Nat, p = (j : Int) + 1 := ⟨(p - 1).toNat, by omega⟩
      have eW : IntKind.i64.wrap ((j : Int) + 1 - 1) = (j : Int) := by rw [wrap_id (by omega) (by omega)]; omega
      have eG := mxB_at (N := (labE x).length) (f := folB x 0) (i := j) (by omega)
      have eT : ((j : Int) + 1).toNat - 1 = j := by omega
      rw [eT]
      repeat (first | (with_reducible first | refine Stp.up ?_ | refine fun (K : AS → Prop) hK => ?_ | refine wE ?_ | refine wD ?_ | refine wK ?_ | refine wF ?_ | refine adrawG_k (by decide) ?_ | refine adrawG_e (by decide) ?_ | (refine hK _ ?_; clear hK; clear K)) | simp only [go_sem, g1, g2, eW, eG, Go.undef] | (with_reducible refine And.intro (by omega) ?_) | (clear hK; clear K))
      refine ACallV.one (S _) ?_
      repeat (first | (with_reducible first | refine Stp.up ?_ | refine fun (K : AS → Prop) hK => ?_ | refine wE ?_ | refine wD ?_ | refine wK ?_ | refine wF ?_ | refine adrawG_k (by decide) ?_ | refine adrawG_e (by decide) ?_ | (refine hK _ ?_; clear hK; clear K)) | simp only [go_sem] | (with_reducible refine And.intro (by omega) ?_) | (clear hK; clear K))
      all_goals first | (refine AFz.of 40 rfl ?_; simp only [go_sem]) | skip
end Go.Proofs.YtmdkgajjekbanaaDoor

namespace Go.Proofs.YtmdkgajjekbanaaDoor
open Go.RowKit

noncomputable def frmB (x : Ex) (p : Int) (q : Nat) : Bool := if p = 0 then fstB x 0 q else if 0 < p ∧ p ≤ (labE x).length then folB x 0 (p.toNat - 1) q else false
noncomputable def frB (x : Ex) (l : List Int) (q : Nat) : Bool := l.any (fun p => frmB x p q)
def kpB (g : Nat → Bool) (l : List ByteArray) (lab : ByteArray) (j q : Nat) : Bool := if q < j then g q && ((l.getD q ⟨#[]⟩).toList == lab.toList) else g q
noncomputable def stB (x : Ex) (l : List Int) (lab : ByteArray) (q : Nat) : Bool := frB x l q && (((labE x).getD q ⟨#[]⟩).toList == lab.toList)
end Go.Proofs.YtmdkgajjekbanaaDoor

namespace Go.Proofs.YtmdkgajjekbanaaDoor
open Go.RowKit

def markI (i : Nat) : List AV := [mk1 i]
@[go_sem] theorem wf_mksI (n k : Nat) : wfR n (mksN markI k) = true := wf_mksN n _ (fun _ => rfl) k
@[go_sem] theorem wf_marksI (n : Nat) : wfR n (marksOf markI) = true := wf_mksN n _ (fun _ => rfl) 12
def mtx (i : Nat) : ByteArray := ⟨#[35, 1, 0, 0, 47, UInt8.ofNat i, 0, 0]⟩
def markT (i : Nat) : List AV := [.v (.string (mtx i))]
@[go_sem] theorem wf_mksT (n k : Nat) : wfR n (mksN markT k) = true := wf_mksN n _ (fun _ => rfl) k
@[go_sem] theorem wf_marksT (n : Nat) : wfR n (marksOf markT) = true := wf_mksN n _ (fun _ => rfl) 12
end Go.Proofs.YtmdkgajjekbanaaDoor

namespace Go.Proofs.YtmdkgajjekbanaaDoor
open Go.RowKit

mutual
theorem sX_parts : ∀ (x : Ex) (d : Nat), sX x d ≤ 300 → (exParts x).length ≤ sX x d
  | .mk k s l, d, h => by
    rw [sX] at h ⊢
    split at h
    · omega
    · rename_i hd
      rw [if_neg hd]
      have := sL_parts l (d + 1) 1 h
      rw [exParts, List.length_cons]; omega
theorem sL_parts : ∀ (l : List Ex) (d n : Nat), sL l d n ≤ 300 → n + (exsParts l).length ≤ sL l d n
  | [], d, n, h => by rw [sL, exsParts]; simp
  | x :: xs, d, n, h => by
    rw [sL] at h ⊢
    split at h
    · rename_i hn
      rw [if_pos hn]
      have h2 := sL_parts xs d (n + sX x d) h
      have h1 := sX_parts x d (by omega)
      rw [exsParts, List.length_append]; omega
    · omega
end
theorem small_parts {x : Ex} (ko : x.ok) (h : sX x 0 ≤ 300) : (exParts x).length ≤ 1000000 ∧ ∀ z, z ∈ exParts x → z.kids.length ≤ 1000000 ∧ z.label.size ≤ 1000000000000000 := by
  have h1 := sX_parts x 0 h
  refine ⟨by omega, fun z hz => ⟨?_, ?_⟩⟩
  · have h2 := parts_sub x z hz
    have h3 := kids_le z
    omega
  · have := part_ok x ko z hz
    unfold okT at this; omega
end Go.Proofs.YtmdkgajjekbanaaDoor
