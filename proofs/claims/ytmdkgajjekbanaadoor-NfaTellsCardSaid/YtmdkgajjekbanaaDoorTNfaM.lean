/- nfa.New and the methods. -/
import Derived.Test.YtmdkgajjekbanaaDoorTPart
set_option linter.unusedSimpArgs false
set_option linter.unusedVariables false
namespace Go.Proofs.YtmdkgajjekbanaaDoor
open Go.RowKit

def nfaV (s : NSt) : List AV := .slc 1 (s.labs.map encS) s.labs.length :: (s.fs.map encM ++ [encM s.la, .v (.bool s.em)])
theorem wf_nfaV (n : Nat) (s : NSt) : wfL n (nfaV s) = true := by simp only [nfaV, encM, wfL, AV.wf, wf_nfa, wf_encS, Bool.and_self]
attribute [go_sem] wf_nfaV
set_option maxRecDepth 100000 in
theorem nLen_c (s : NSt) : Call1 Tryd.prog 16 [.vp (nfaV s)] (.v (.int .i64 s.labs.length)) := by
  simp only [nfaV, encM]
  (refine Call1.enter Tryd.func16 rfl (by kernel_rfl) (by kernel_rfl) rfl (by first | rfl | (simp only [go_sem, Bool.and_self, Bool.and_true, Bool.true_and])) (by first | rfl | (simp only [go_sem, Bool.and_self, Bool.and_true, Bool.true_and])) ?_; simp only [Tryd.ntmps16, Tryd.results16, List.length_cons, List.length_nil, Nat.reduceAdd, Nat.reduceSub, List.replicate_succ, List.replicate_zero, List.cons_append, List.nil_append])
  repeat' (first | (with_reducible first | refine Stp.up ?_ | refine fun (K : AS → Prop) hK => ?_ | refine wE ?_ | refine wD ?_ | refine wK ?_ | refine wF ?_ | refine adrawG_k (by decide) ?_ | refine adrawG_e (by decide) ?_ | (refine hK _ ?_; clear hK; clear K)) | simp only [go_sem] | (with_reducible refine And.intro (by omega) ?_) | (clear hK; clear K) | (with_reducible refine ACallV.one (by assumption) ?_) | (with_reducible refine ACallS.one (by assumption) ?_) | (refine AIf.part (fun hb => ?_) (fun hb => ?_) <;> simp only [hb, go_sem]) | (refine AIf.part (fun hb => ?_) (fun hb => ?_)) | (with_reducible refine ABoth.mk ?_ ?_))
set_option maxRecDepth 100000 in
theorem nLast_c (s : NSt) (hf : s.fs.length = 25) : Call1 Tryd.prog 24 [.vp (nfaV s)] (.slc 1 (encN (bitsM s.la)) (bitsM s.la).length) := by
  have C := list_c s.la
  have eD : List.drop 25 (s.fs.map encM ++ [.v (.int .u32 s.la.toNat), .v (.bool s.em)]) = [.v (.int .u32 s.la.toNat), .v (.bool s.em)] := by rw [List.drop_append_of_le_length (by simp [hf]), List.drop_eq_nil_of_le (by simp [hf])]; rfl
  simp only [nfaV, encM] at *
  (refine Call1.enter Tryd.func24 rfl (by kernel_rfl) (by kernel_rfl) rfl (by first | rfl | (simp only [go_sem, Bool.and_self, Bool.and_true, Bool.true_and])) (by first | rfl | (simp only [go_sem, Bool.and_self, Bool.and_true, Bool.true_and])) ?_; simp only [Tryd.ntmps24, Tryd.results24, List.length_cons, List.length_nil, Nat.reduceAdd, Nat.reduceSub, List.replicate_succ, List.replicate_zero, List.cons_append, List.nil_append])
  repeat (first | (with_reducible first | refine Stp.up ?_ | refine fun (K : AS → Prop) hK => ?_ | refine wE ?_ | refine wD ?_ | refine wK ?_ | refine wF ?_ | refine adrawG_k (by decide) ?_ | refine adrawG_e (by decide) ?_ | (refine hK _ ?_; clear hK; clear K)) | simp only [go_sem, eD] | (with_reducible refine And.intro (by omega) ?_) | (clear hK; clear K))
  refine ACallV.one C ?_
  repeat (first | (with_reducible first | refine Stp.up ?_ | refine fun (K : AS → Prop) hK => ?_ | refine wE ?_ | refine wD ?_ | refine wK ?_ | refine wF ?_ | refine adrawG_k (by decide) ?_ | refine adrawG_e (by decide) ?_ | (refine hK _ ?_; clear hK; clear K)) | simp only [go_sem] | (with_reducible refine And.intro (by omega) ?_) | (clear hK; clear K))
  (refine AFz.of 40 rfl ?_; simp only [go_sem])
set_option maxRecDepth 100000 in
theorem nEmpty_c (s : NSt) (hf : s.fs.length = 25) : Call1 Tryd.prog 17 [.vp (nfaV s)] (.v (.bool s.em)) := by
  have eD : List.drop 26 (s.fs.map encM ++ [.v (.int .u32 s.la.toNat), .v (.bool s.em)]) = [.v (.bool s.em)] := by
    rw [show 26 = s.fs.length + 1 by omega, show (s.fs.length + 1) = (s.fs.map encM).length + 1 by simp, List.drop_append]; simp
  simp only [nfaV, encM] at *
  (refine Call1.enter Tryd.func17 rfl (by kernel_rfl) (by kernel_rfl) rfl (by first | rfl | (simp only [go_sem, Bool.and_self, Bool.and_true, Bool.true_and])) (by first | rfl | (simp only [go_sem, Bool.and_self, Bool.and_true, Bool.true_and])) ?_; simp only [Tryd.ntmps17, Tryd.results17, List.length_cons, List.length_nil, Nat.reduceAdd, Nat.reduceSub, List.replicate_succ, List.replicate_zero, List.cons_append, List.nil_append])
  repeat (first | (with_reducible first | refine Stp.up ?_ | refine fun (K : AS → Prop) hK => ?_ | refine wE ?_ | refine wD ?_ | refine wK ?_ | refine wF ?_ | refine adrawG_k (by decide) ?_ | refine adrawG_e (by decide) ?_ | (refine hK _ ?_; clear hK; clear K)) | simp only [go_sem, eD, Go.undef] | (with_reducible refine And.intro (by omega) ?_) | (clear hK; clear K))
set_option maxRecDepth 100000 in
theorem nFirst_c (s : NSt) (hf : s.fs.length = 25) : Call1 Tryd.prog 14 [.vp (nfaV s)] (.slc 1 (encN (bitsM (s.fs.getD 0 0#32))) (bitsM (s.fs.getD 0 0#32)).length) := by
  have C := list_c (s.fs.getD 0 0#32)
  obtain ⟨r, eD⟩ := fs_drop (l := .slc 1 (s.labs.map encS) s.labs.length) (X := [.v (.int .u32 s.la.toNat), .v (.bool s.em)]) (fs := s.fs) (p := 0) (by omega)
  simp only [Nat.zero_mul, Nat.add_zero, List.drop_succ_cons, List.drop_zero] at eD
  simp only [nfaV, encM] at *
  (refine Call1.enter Tryd.func14 rfl (by kernel_rfl) (by kernel_rfl) rfl (by first | rfl | (simp only [go_sem, Bool.and_self, Bool.and_true, Bool.true_and])) (by first | rfl | (simp only [go_sem, Bool.and_self, Bool.and_true, Bool.true_and])) ?_; simp only [Tryd.ntmps14, Tryd.results14, List.length_cons, List.length_nil, Nat.reduceAdd, Nat.reduceSub, List.replicate_succ, List.replicate_zero, List.cons_append, List.nil_append])
  repeat (first | (with_reducible first | refine Stp.up ?_ | refine fun (K : AS → Prop) hK => ?_ | refine wE ?_ | refine wD ?_ | refine wK ?_ | refine wF ?_ | refine adrawG_k (by decide) ?_ | refine adrawG_e (by decide) ?_ | (refine hK _ ?_; clear hK; clear K)) | simp only [go_sem, eD] | (with_reducible refine And.intro (by omega) ?_) | (clear hK; clear K))
  refine ACallV.one C ?_
  repeat (first | (with_reducible first | refine Stp.up ?_ | refine fun (K : AS → Prop) hK => ?_ | refine wE ?_ | refine wD ?_ | refine wK ?_ | refine wF ?_ | refine adrawG_k (by decide) ?_ | refine adrawG_e (by decide) ?_ | (refine hK _ ?_; clear hK; clear K)) | simp only [go_sem] | (with_reducible refine And.intro (by omega) ?_) | (clear hK; clear K))
  (refine AFz.of 40 rfl ?_; simp only [go_sem])
def labAt (s : NSt) (p : Int) : ByteArray := if 1 ≤ p ∧ p ≤ s.labs.length then s.labs.getD (p - 1).toNat ⟨#[]⟩ else ⟨#[]⟩
def folAt (s : NSt) (p : Int) : List Nat := if 1 ≤ p ∧ p ≤ s.labs.length then bitsM (s.fs.getD p.toNat 0#32) else []
theorem labAt_row {s : NSt} {p : Int} (h1 : 1 ≤ p) (h2 : p ≤ s.labs.length) : (s.labs.map encS).getD (p - 1).toNat [] = [.v (.string (labAt s p))] := by
  have hlt : (p - 1).toNat < s.labs.length := by omega
  rw [labAt, if_pos ⟨h1, h2⟩]
  rw [List.getD_eq_getElem?_getD, List.getD_eq_getElem?_getD, List.getElem?_map, List.getElem?_eq_getElem hlt]; rfl
set_option maxRecDepth 100000 in
theorem nLabel_c (s : NSt) (p : Int) (hn : s.labs.length ≤ 24) : Call1 Tryd.prog 18 [.vp (nfaV s), .v (.int .i64 p)] (.v (.string (labAt s p))) := by
  have C := nLen_c s
  by_cases h1 : p < 1
  · have b1 : decide (p < 1) = true := decide_eq_true h1
    rw [labAt, if_neg (by omega)]
    simp only [nfaV, encM] at *
    (refine Call1.enter Tryd.func18 rfl (by kernel_rfl) (by kernel_rfl) rfl (by first | rfl | (simp only [go_sem, Bool.and_self, Bool.and_true, Bool.true_and])) (by first | rfl | (simp only [go_sem, Bool.and_self, Bool.and_true, Bool.true_and])) ?_; simp only [Tryd.ntmps18, Tryd.results18, List.length_cons, List.length_nil, Nat.reduceAdd, Nat.reduceSub, List.replicate_succ, List.replicate_zero, List.cons_append, List.nil_append])
    repeat (first | (with_reducible first | refine Stp.up ?_ | refine fun (K : AS → Prop) hK => ?_ | refine wE ?_ | refine wD ?_ | refine wK ?_ | refine wF ?_ | refine adrawG_k (by decide) ?_ | refine adrawG_e (by decide) ?_ | (refine hK _ ?_; clear hK; clear K)) | simp only [go_sem, b1, Go.undef] | (with_reducible refine And.intro (by omega) ?_) | (clear hK; clear K))
  · have b1 : decide (p < 1) = false := decide_eq_false h1
    by_cases h2 : (s.labs.length : Int) < p
    · have b2 : decide ((s.labs.length : Int) < p) = true := decide_eq_true h2
      rw [labAt, if_neg (by omega)]
      simp only [nfaV, encM] at *
      (refine Call1.enter Tryd.func18 rfl (by kernel_rfl) (by kernel_rfl) rfl (by first | rfl | (simp only [go_sem, Bool.and_self, Bool.and_true, Bool.true_and])) (by first | rfl | (simp only [go_sem, Bool.and_self, Bool.and_true, Bool.true_and])) ?_; simp only [Tryd.ntmps18, Tryd.results18, List.length_cons, List.length_nil, Nat.reduceAdd, Nat.reduceSub, List.replicate_succ, List.replicate_zero, List.cons_append, List.nil_append])
      repeat (first | (with_reducible first | refine Stp.up ?_ | refine fun (K : AS → Prop) hK => ?_ | refine wE ?_ | refine wD ?_ | refine wK ?_ | refine wF ?_ | refine adrawG_k (by decide) ?_ | refine adrawG_e (by decide) ?_ | (refine hK _ ?_; clear hK; clear K)) | simp only [go_sem, b1, Go.undef] | (with_reducible refine And.intro (by omega) ?_) | (clear hK; clear K))
      refine ACallV.one C ?_
      repeat (first | (with_reducible first | refine Stp.up ?_ | refine fun (K : AS → Prop) hK => ?_ | refine wE ?_ | refine wD ?_ | refine wK ?_ | refine wF ?_ | refine adrawG_k (by decide) ?_ | refine adrawG_e (by decide) ?_ | (refine hK _ ?_; clear hK; clear K)) | simp only [go_sem, b2, Go.undef] | (with_reducible refine And.intro (by omega) ?_) | (clear hK; clear K))
    · have b2 : decide ((s.labs.length : Int) < p) = false := decide_eq_false h2
      have eG := labAt_row (s := s) (p := p) (by omega) (by omega)
      have eW : IntKind.i64.wrap (p - 1) = p - 1 := wrap_id (by omega) (by omega)
      simp only [nfaV, encM] at *
      (refine Call1.enter Tryd.func18 rfl (by kernel_rfl) (by kernel_rfl) rfl (by first | rfl | (simp only [go_sem, Bool.and_self, Bool.and_true, Bool.true_and])) (by first | rfl | (simp only [go_sem, Bool.and_self, Bool.and_true, Bool.true_and])) ?_; simp only [Tryd.ntmps18, Tryd.results18, List.length_cons, List.length_nil, Nat.reduceAdd, Nat.reduceSub, List.replicate_succ, List.replicate_zero, List.cons_append, List.nil_append])
      repeat (first | (with_reducible first | refine Stp.up ?_ | refine fun (K : AS → Prop) hK => ?_ | refine wE ?_ | refine wD ?_ | refine wK ?_ | refine wF ?_ | refine adrawG_k (by decide) ?_ | refine adrawG_e (by decide) ?_ | (refine hK _ ?_; clear hK; clear K)) | simp only [go_sem, b1, Go.undef] | (with_reducible refine And.intro (by omega) ?_) | (clear hK; clear K))
      refine ACallV.one C ?_
      repeat (first | (with_reducible first | refine Stp.up ?_ | refine fun (K : AS → Prop) hK => ?_ | refine wE ?_ | refine wD ?_ | refine wK ?_ | refine wF ?_ | refine adrawG_k (by decide) ?_ | refine adrawG_e (by decide) ?_ | (refine hK _ ?_; clear hK; clear K)) | simp only [go_sem, b2, eW, eG, Go.undef] | (with_reducible refine And.intro (by omega) ?_) | (clear hK; clear K))
theorem fs_drop0 {fs : List (BitVec 32)} {X : List AV} {p : Nat} (h : p < fs.length) : ∃ r, (fs.map encM ++ X).drop (p * 1) = encM (fs.getD p 0#32) :: r := by
  obtain ⟨r, e⟩ := fs_drop (l := .undef) (X := X) h
  rw [Nat.add_comm, List.drop_succ_cons] at e
  exact ⟨r, e⟩
set_option maxRecDepth 100000 in
theorem nFollow_c (s : NSt) (p : Int) (hf : s.fs.length = 25) (hn : s.labs.length ≤ 24) : Call1 Tryd.prog 21 [.vp (nfaV s), .v (.int .i64 p)] (.slc 1 (encN (folAt s p)) (folAt s p).length) := by
  have C := nLen_c s
  by_cases h1 : p < 1
  · have b1 : decide (p < 1) = true := decide_eq_true h1
    rw [folAt, if_neg (by omega)]
    simp only [nfaV, encM] at *
    refine CallN.to1 ?_
    (refine CallN.enter Tryd.func21 rfl (by kernel_rfl) (by kernel_rfl) rfl (by simp only [go_sem, wfL, AV.wf, Bool.and_self, Bool.and_true, Bool.true_and, Go.undef]) (by simp only [go_sem, wfL, AV.wf, wf_encS, Bool.and_self, Bool.and_true, Bool.true_and, Go.undef]) ?_; simp only [Tryd.ntmps21, Tryd.results21, List.length_cons, List.length_nil, Nat.reduceAdd, Nat.reduceSub, List.replicate_succ, List.replicate_zero, List.cons_append, List.nil_append])
    repeat (first | (with_reducible first | refine Stp.up ?_ | refine fun (K : AS → Prop) hK => ?_ | refine wE ?_ | refine wD ?_ | refine wK ?_ | refine wF ?_ | refine adrawG_k (by decide) ?_ | refine adrawG_e (by decide) ?_ | (refine hK _ ?_; clear hK; clear K)) | simp only [go_sem, b1, Go.undef] | (with_reducible refine And.intro (by omega) ?_) | (clear hK; clear K))
    exact AFzN.nil 1
  · have b1 : decide (p < 1) = false := decide_eq_false h1
    by_cases h2 : (s.labs.length : Int) < p
    · have b2 : decide ((s.labs.length : Int) < p) = true := decide_eq_true h2
      rw [folAt, if_neg (by omega)]
      simp only [nfaV, encM] at *
      refine CallN.to1 ?_
      (refine CallN.enter Tryd.func21 rfl (by kernel_rfl) (by kernel_rfl) rfl (by simp only [go_sem, wfL, AV.wf, Bool.and_self, Bool.and_true, Bool.true_and, Go.undef]) (by simp only [go_sem, wfL, AV.wf, wf_encS, Bool.and_self, Bool.and_true, Bool.true_and, Go.undef]) ?_; simp only [Tryd.ntmps21, Tryd.results21, List.length_cons, List.length_nil, Nat.reduceAdd, Nat.reduceSub, List.replicate_succ, List.replicate_zero, List.cons_append, List.nil_append])
      repeat (first | (with_reducible first | refine Stp.up ?_ | refine fun (K : AS → Prop) hK => ?_ | refine wE ?_ | refine wD ?_ | refine wK ?_ | refine wF ?_ | refine adrawG_k (by decide) ?_ | refine adrawG_e (by decide) ?_ | (refine hK _ ?_; clear hK; clear K)) | simp only [go_sem, b1, Go.undef] | (with_reducible refine And.intro (by omega) ?_) | (clear hK; clear K))
      refine ACallV.one C ?_
      repeat (first | (with_reducible first | refine Stp.up ?_ | refine fun (K : AS → Prop) hK => ?_ | refine wE ?_ | refine wD ?_ | refine wK ?_ | refine wF ?_ | refine adrawG_k (by decide) ?_ | refine adrawG_e (by decide) ?_ | (refine hK _ ?_; clear hK; clear K)) | simp only [go_sem, b2, Go.undef] | (with_reducible refine And.intro (by omega) ?_) | (clear hK; clear K))
      exact AFzN.nil 1
    · have b2 : decide ((s.labs.length : Int) < p) = false := decide_eq_false h2
      obtain ⟨r, eD⟩ := fs_drop0 (X := [.v (.int .u32 s.la.toNat), .v (.bool s.em)]) (fs := s.fs) (p := p.toNat) (by omega)
      have L := list_c (s.fs.getD p.toNat 0#32)
      have eP : 0 ≤ p ∧ p < 25 := by omega
      rw [folAt, if_pos (by omega)]
      simp only [nfaV, encM] at *
      (refine Call1.enter Tryd.func21 rfl (by kernel_rfl) (by kernel_rfl) rfl (by first | rfl | (simp only [go_sem, Bool.and_self, Bool.and_true, Bool.true_and])) (by first | rfl | (simp only [go_sem, Bool.and_self, Bool.and_true, Bool.true_and])) ?_; simp only [Tryd.ntmps21, Tryd.results21, List.length_cons, List.length_nil, Nat.reduceAdd, Nat.reduceSub, List.replicate_succ, List.replicate_zero, List.cons_append, List.nil_append])
      repeat (first | (with_reducible first | refine Stp.up ?_ | refine fun (K : AS → Prop) hK => ?_ | refine wE ?_ | refine wD ?_ | refine wK ?_ | refine wF ?_ | refine adrawG_k (by decide) ?_ | refine adrawG_e (by decide) ?_ | (refine hK _ ?_; clear hK; clear K)) | simp only [go_sem, b1, Go.undef] | (with_reducible refine And.intro (by omega) ?_) | (clear hK; clear K))
      refine ACallV.one C ?_
      repeat (first | (with_reducible first | refine Stp.up ?_ | refine fun (K : AS → Prop) hK => ?_ | refine wE ?_ | refine wD ?_ | refine wK ?_ | refine wF ?_ | refine adrawG_k (by decide) ?_ | refine adrawG_e (by decide) ?_ | (refine hK _ ?_; clear hK; clear K)) | simp only [go_sem, b2, eD, Go.undef] | (with_reducible refine And.intro (by omega) ?_) | (clear hK; clear K))
      refine ACallV.one L ?_
      repeat (first | (with_reducible first | refine Stp.up ?_ | refine fun (K : AS → Prop) hK => ?_ | refine wE ?_ | refine wD ?_ | refine wK ?_ | refine wF ?_ | refine adrawG_k (by decide) ?_ | refine adrawG_e (by decide) ?_ | (refine hK _ ?_; clear hK; clear K)) | simp only [go_sem] | (with_reducible refine And.intro (by omega) ?_) | (clear hK; clear K))
      (refine AFz.of 40 rfl ?_; simp only [go_sem])
end Go.Proofs.YtmdkgajjekbanaaDoor
