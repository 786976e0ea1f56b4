/- The document's names (ref02): the walks. -/
import Derived.Test.YtldnlbcibmmbbaaRTy
import Derived.Test.YtldnlbcibmmbbaaREnc
import Derived.Test.YtldnlbcibmmbbaaRValue
import Derived.Test.YtldnlbcibmmbbaaRBase2
set_option linter.unusedSimpArgs false
set_option linter.unusedVariables false
namespace Go.Proofs.Ytldnlbcibmmbbaa
open Go.RowKit

end Go.Proofs.Ytldnlbcibmmbbaa

namespace Go.Proofs.Ytldnlbcibmmbbaa
open Go.RowKit

theorem toList_inj {s t : ByteArray} : (s.toList == t.toList) = true ↔ s = t := by
 refine ⟨fun h => ?_, fun h => by subst h; simp⟩
 have h := eq_of_beq h
 rw [ByteArray.toList_eq, ByteArray.toList_eq] at h
 obtain ⟨⟨l⟩⟩ := s
 obtain ⟨⟨m⟩⟩ := t
 have h : l = m := h
 subst h; rfl
theorem toList_iff {s t : ByteArray} : s.toList = t.toList ↔ s = t := by rw [← toList_inj, beq_iff_eq]
theorem all2_eq {α : Type} {f : α → α → Bool} : ∀ (xs ys : List α), (∀ x ∈ xs, ∀ y, f x y = true ↔ x = y) → (all2 f xs ys = true ↔ xs = ys)
 | [], [], _ => by simp [all2]
 | [], _ :: _, _ => by simp [all2]
 | _ :: _, [], _ => by simp [all2]
 | x :: xs, y :: ys, h => by
  rw [all2, Bool.and_eq_true, h x (by simp), all2_eq xs ys (fun a ha => h a (by simp [ha]))]
  simp
theorem exSame_eq : ∀ x y : Ex, exSame x y = true ↔ x = y := by
 intro x
 induction x using Ex.ind with
 | h k s l ih =>
  rintro ⟨k', s', l'⟩
  rw [exSame_iff_kids, Bool.and_eq_true, Bool.and_eq_true, toList_inj, all2_eq l l' ih, beq_iff_eq]
  simp [and_assoc]
theorem valEq (x y : Val) : x.eqb y = true ↔ x = y := by
 obtain ⟨a, b, c⟩ := x; obtain ⟨a', b', c'⟩ := y
 simp only [Val.eqb, Bool.and_eq_true, toList_iff, beq_iff_eq, Val.mk.injEq, and_assoc]
theorem opdEq (x y : Opd) : x.eqb y = true ↔ x = y := by
 obtain ⟨a, b, c, d⟩ := x; obtain ⟨a', b', c', d'⟩ := y
 simp only [Opd.eqb, Bool.and_eq_true, toList_iff, beq_iff_eq, valEq, Opd.mk.injEq, and_assoc]
theorem cndEq (x y : Cnd) : x.eqb y = true ↔ x = y := by
 obtain ⟨a, b, c⟩ := x; obtain ⟨a', b', c'⟩ := y
 simp only [Cnd.eqb, Bool.and_eq_true, opdEq, beq_iff_eq, Cnd.mk.injEq, and_assoc]
theorem patEq (x y : Pat) : patSame x y = true ↔ x = y := by
 obtain ⟨a, b, c, d, e, f⟩ := x; obtain ⟨a', b', c', d', e', f'⟩ := y
 simp only [patSame, Bool.and_eq_true, toList_iff, exSame_eq, beq_iff_eq, Pat.mk.injEq, and_assoc]
theorem qryEq (x y : Qry) : qrySame x y = true ↔ x = y := by
 obtain ⟨a, b, c, d, e⟩ := x; obtain ⟨a', b', c', d', e'⟩ := y
 simp only [qrySame, Bool.and_eq_true, all2_eq _ _ (fun x _ y => patEq x y), all2_eq _ _ (fun x _ y => cndEq x y), all2_eq _ _ (fun x _ y => opdEq x y), beq_iff_eq, Qry.mk.injEq, and_assoc]
theorem qrySame_refl (x : Qry) : qrySame x x = true := (qryEq x x).2 rfl
end Go.Proofs.Ytldnlbcibmmbbaa

namespace Go.Proofs.Ytldnlbcibmmbbaa
open Go.RowKit

end Go.Proofs.Ytldnlbcibmmbbaa

namespace Go.Proofs.Ytldnlbcibmmbbaa
open Go.RowKit

theorem flat_mem_le {α β : Type} (f : α → List β) : ∀ (l : List α) (x : α), x ∈ l → (f x).length ≤ (l.flatMap f).length
 | y :: l, x, h => by
  rw [List.flatMap_cons, List.length_append]
  rcases List.mem_cons.1 h with rfl | h
  ·omega
  ·have := flat_mem_le f l x h; omega
theorem exParts_kids (k : Int) (s : ByteArray) (l : List Ex) : (exParts (.mk k s l)).length = 1 + (l.flatMap exParts).length := by
 rw [exParts, exsParts_eq, List.length_cons]; omega
theorem exParts_pos (x : Ex) : 1 ≤ (exParts x).length := by
 obtain ⟨k, s, l⟩ := x; rw [exParts_kids]; omega
theorem flat_len (l : List Ex) : l.length ≤ (l.flatMap exParts).length := by
 induction l with
 | nil => simp
 | cons x l ih => rw [List.flatMap_cons, List.length_append, List.length_cons]; have := exParts_pos x; omega

set_option maxRecDepth 100000 in
set_option maxHeartbeats 4000000 in
theorem same07_c (x : Ex) : ∀ (y : Ex), x.kids.length ≤ 1000000 → (∀ z, z ∈ exParts x → z.kids.length ≤ 1000000) → Call1 Try.prog 33 [.agg (encE x), .agg (encE y)] (.v (.bool (exSame x y))) := by
 induction x using Ex.ind with
 | h k s l ih =>
  rintro ⟨k', s', l'⟩ hx hz
  simp only [Ex.kids] at hx
  rw [encE_eq, encE_eq, exSame_iff_kids]
  simp only [Ex.kind, Ex.label, Ex.kids]
  (refine Call1.enter Try.func33 rfl (by kernel_rfl) (by kernel_rfl) rfl (by first | rfl | (simp only [go_sem, Bool.and_self, Bool.and_true, Bool.true_and])) (by first | rfl | (simp only [go_sem, Bool.and_self, Bool.and_true, Bool.true_and])) ?_; simp only [Try.ntmps33, Try.results33, List.length_cons, List.length_nil, Nat.reduceAdd, Nat.reduceSub, List.replicate_succ, List.replicate_zero, List.cons_append, List.nil_append])
  repeat (first | (with_reducible first | refine Stp.up ?_ | refine fun (K : AK) hK => ?_ | refine wD ?_ | (refine hK _ ?_; clear hK K)) | simp only [go_sem] | with_reducible refine wA ?_ | clear hK K)
  cases h1 : (k == k') with
  | false =>
   have n1 : (k != k') = true := by simp [bne, h1]
   repeat (first | (with_reducible first | refine Stp.up ?_ | refine fun (K : AK) hK => ?_ | refine wD ?_ | (refine hK _ ?_; clear hK K)) | simp only [go_sem, n1, Go.undef] | with_reducible refine wA ?_ | clear hK K)
   simp only [h1, Bool.false_and]
  | true =>
   have n1 : (k != k') = false := by simp [bne, h1]
   repeat (first | (with_reducible first | refine Stp.up ?_ | refine fun (K : AK) hK => ?_ | refine wD ?_ | (refine hK _ ?_; clear hK K)) | simp only [go_sem, n1] | with_reducible refine wA ?_ | clear hK K)
   refine AIf.part (fun h2 => ?_) (fun h2 => ?_)
   ·repeat (first | (with_reducible first | refine Stp.up ?_ | refine fun (K : AK) hK => ?_ | refine wD ?_ | (refine hK _ ?_; clear hK K)) | simp only [go_sem, n1, h2] | with_reducible refine wA ?_ | clear hK K)
    rcases Nat.lt_or_ge l.length l'.length with q | q
    ·have n3 : ((l.length : Int) != (l'.length : Int)) = true := by simp only [bne_iff_ne, ne_eq]; omega
     repeat (first | (with_reducible first | refine Stp.up ?_ | refine fun (K : AK) hK => ?_ | refine wD ?_ | (refine hK _ ?_; clear hK K)) | simp only [go_sem, n1, h2, n3, Go.undef] | with_reducible refine wA ?_ | clear hK K)
     rw [all2_len (by omega)]; simp
    ·rcases Nat.lt_or_ge l'.length l.length with q2 | q2
     ·have n3 : ((l.length : Int) != (l'.length : Int)) = true := by simp only [bne_iff_ne, ne_eq]; omega
      repeat (first | (with_reducible first | refine Stp.up ?_ | refine fun (K : AK) hK => ?_ | refine wD ?_ | (refine hK _ ?_; clear hK K)) | simp only [go_sem, n1, h2, n3, Go.undef] | with_reducible refine wA ?_ | clear hK K)
      rw [all2_len (by omega)]; simp
     ·have el : l.length = l'.length := by omega
      have n3 : ((l.length : Int) != (l'.length : Int)) = false := by rw [el]; simp
      repeat (first | (with_reducible first | refine Stp.up ?_ | refine fun (K : AK) hK => ?_ | refine wD ?_ | (refine hK _ ?_; clear hK K)) | simp only [go_sem, n1, h2, n3, Go.undef] | with_reducible refine wA ?_ | clear hK K)
      refine awp_loopF (ι := Nat) (fun i => [(2, .ptr 0 0 3 0 0), (3, .ptr 1 0 3 0 0), (4, .v (.bool false)), (5, .v (.int .i64 i))]) (fun _ => [some ⟨43, 3, false, [[.v (.int .i64 k), .v (.string s), .slc 3 (l.map encE) l.length]]⟩, some ⟨43, 3, false, [[.v (.int .i64 k'), .v (.string s'), .slc 3 (l'.map encE) l'.length]]⟩]) (fun i => l.length - i) (fun i => i ≤ l.length ∧ ∀ j (h : j < l.length) (h' : j < l'.length), j < i → exSame l[j] l'[j] = true) 0 ⟨by omega, fun j _ _ h => absurd h (by omega)⟩ ?_ ?_
      ·(refine wk_mk ?_ ?_ ?_ <;> simp only [frm, List.foldl_cons, List.foldl_nil, List.replicate_succ, List.replicate_zero, WkT, WkO, AV.v.injEq, Value.int.injEq, Value.bool.injEq, Value.string.injEq, AV.vec.injEq, AV.ptr.injEq, true_or, or_true, false_or, or_false, AObj.mk.injEq, forall_eq_apply_imp_iff, forall_eq, forall_eq', go_sem])
       rfl
      ·rintro i ⟨hi, hP⟩ K hK
       simp only [frm, List.foldl_cons, List.foldl_nil, List.replicate_succ, List.replicate_zero, go_sem]
       repeat (first | (with_reducible first | refine Stp.up ?_ | refine fun (K : AK) hK => ?_ | refine wD ?_ | (refine hK _ ?_; clear hK K)) | simp only [go_sem] | with_reducible refine wA ?_ | clear hK K)
       refine AIf.part (fun h => ?_) (fun h => ?_)
       ·have hlt : i < l.length := by (try simp only [bne_iff_ne, ne_eq, bne_eq_false_iff_eq, beq_iff_eq, beq_eq_false_iff_ne, decide_eq_true_eq, decide_eq_false_iff_not, Bool.not_eq_eq_eq_not, Int.natCast_inj, Int.ofNat_lt, Int.ofNat_le] at h); omega
        have hlt2 : i < l'.length := by omega
        have eW := wrap_succ (k := i) (by omega)
        have eG := getD_map encE l i [] hlt
        have eH := getD_map encE l' i [] hlt2
        have C := ih l[i] (List.getElem_mem hlt) l'[i] (hz _ (by rw [exParts, exsParts_eq]; exact List.mem_cons_of_mem _ (List.mem_flatMap.2 ⟨_, List.getElem_mem hlt, by rcases hq : l[i] with ⟨a, b, c⟩; rw [exParts]; exact List.mem_cons_self⟩))) (fun z hz' => hz z (by rw [exParts, exsParts_eq]; exact List.mem_cons_of_mem _ (List.mem_flatMap.2 ⟨_, List.getElem_mem hlt, hz'⟩)))
        simp only [encE_eq] at C eG eH
        repeat (first | (with_reducible first | refine Stp.up ?_ | refine fun (K : AK) hK => ?_ | refine wD ?_ | (refine hK _ ?_; clear hK K)) | simp only [go_sem, eG, eH] | with_reducible refine wA ?_ | clear hK K)
        refine ACallS.one C ?_
        repeat (first | (with_reducible first | refine Stp.up ?_ | refine fun (K : AK) hK => ?_ | refine wD ?_ | (refine hK _ ?_; clear hK K)) | simp only [go_sem, eG, eH] | with_reducible refine wA ?_ | clear hK K)
        refine AIf.part (fun h5 => ?_) (fun h5 => ?_)
        ·repeat (first | (with_reducible first | refine Stp.up ?_ | refine fun (K : AK) hK => ?_ | refine wD ?_ | (refine hK _ ?_; clear hK K)) | simp only [go_sem, eW] | with_reducible refine wA ?_ | clear hK K)
         exact LNext.mk (i + 1) ⟨by omega, fun j hj hj2 h3 => (by
          rcases Nat.lt_or_ge j i with r | r
          ·exact hP j hj hj2 r
          ·have e : j = i := by omega
           subst e
           exact h5)⟩ (by omega) (by (refine wk_mk ?_ ?_ ?_ <;> simp only [frm, List.foldl_cons, List.foldl_nil, List.replicate_succ, List.replicate_zero, WkT, WkO, AV.v.injEq, Value.int.injEq, Value.bool.injEq, Value.string.injEq, AV.vec.injEq, AV.ptr.injEq, true_or, or_true, false_or, or_false, AObj.mk.injEq, forall_eq_apply_imp_iff, forall_eq, forall_eq', go_sem]))
        ·repeat (first | (with_reducible first | refine Stp.up ?_ | refine fun (K : AK) hK => ?_ | refine wD ?_ | (refine hK _ ?_; clear hK K)) | simp only [go_sem, h5] | with_reducible refine wA ?_ | clear hK K)
         rw [all2_at hlt hlt2 h5]; simp
       ·have he : i = l.length := by (try simp only [bne_iff_ne, ne_eq, bne_eq_false_iff_eq, beq_iff_eq, beq_eq_false_iff_ne, decide_eq_true_eq, decide_eq_false_iff_not, Bool.not_eq_eq_eq_not, Int.natCast_inj, Int.ofNat_lt, Int.ofNat_le] at h); omega
        repeat (first | (with_reducible first | refine Stp.up ?_ | refine fun (K : AK) hK => ?_ | refine wD ?_ | (refine hK _ ?_; clear hK K)) | simp only [go_sem] | with_reducible refine wA ?_ | clear hK K)
        rw [all2_iff.2 ⟨el, fun j hj hj2 => hP j hj hj2 (by omega)⟩, h1, h2]; rfl
   ·repeat (first | (with_reducible first | refine Stp.up ?_ | refine fun (K : AK) hK => ?_ | refine wD ?_ | (refine hK _ ?_; clear hK K)) | simp only [go_sem, n1, h2, Go.undef] | with_reducible refine wA ?_ | clear hK K)
end Go.Proofs.Ytldnlbcibmmbbaa

namespace Go.Proofs.Ytldnlbcibmmbbaa
open Go.RowKit

end Go.Proofs.Ytldnlbcibmmbbaa
