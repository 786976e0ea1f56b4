/- The document's expressions (ref07): Size, Same: the walks. -/
import Derived.Test.YtmdkgajjekbanaaDoorSBeh
import Derived.Test.YtmdkgajjekbanaaDoorSBehP
set_option linter.unusedSimpArgs false
set_option linter.unusedVariables false
namespace Go.Proofs.YtmdkgajjekbanaaDoor
open Go.RowKit

theorem flat_take_succ {α β : Type} (f : α → List β) (l : List α) (k : Nat) (h : k < l.length) : ((l.take (k + 1)).flatMap f).length = ((l.take k).flatMap f).length + (f l[k]).length := by
  rw [List.take_add_one, List.flatMap_append, List.length_append, List.getElem?_eq_getElem h]; simp only [Option.toList_some, List.flatMap_cons, List.flatMap_nil, List.append_nil]
theorem flat_take_le {α β : Type} (f : α → List β) (l : List α) (k : Nat) : ((l.take k).flatMap f).length ≤ (l.flatMap f).length := by
  conv => rhs; rw [← List.take_append_drop k l, List.flatMap_append, List.length_append]
  omega
theorem flat_mem_le {α β : Type} (f : α → List β) : ∀ (l : List α) (x : α), x ∈ l → (f x).length ≤ (l.flatMap f).length
  | y :: l, x, h => by
    rw [List.flatMap_cons, List.length_append]
    rcases List.mem_cons.1 h with rfl | h
    · omega
    · have := flat_mem_le f l x h; omega
theorem exParts_kids (k : Int) (s : ByteArray) (l : List Ex) : (exParts (.mk k s l)).length = 1 + (l.flatMap exParts).length := by
  rw [exParts, exsParts_eq, List.length_cons]; omega
theorem exParts_pos (x : Ex) : 1 ≤ (exParts x).length := by
  obtain ⟨k, s, l⟩ := x; rw [exParts_kids]; omega
theorem flat_len (l : List Ex) : l.length ≤ (l.flatMap exParts).length := by
  induction l with
  | nil => simp
  | cons x l ih => rw [List.flatMap_cons, List.length_append, List.length_cons]; have := exParts_pos x; omega

set_option maxRecDepth 100000 in
set_option maxHeartbeats 4000000 in
theorem size07_c (x : Ex) (hx : (exParts x).length ≤ 1000000) : Call1 Tryd.prog 65 [.agg (encE x)] (.v (.int .i64 ((exParts x).length : Nat))) := by
  induction x using Ex.ind with
  | h kd s l ih =>
    rw [exParts_kids] at hx ⊢
    have hl := flat_len l
    rw [encE_eq]
    simp only [Ex.kind, Ex.label, Ex.kids]
    (refine Call1.enter Tryd.func65 rfl (by kernel_rfl) (by kernel_rfl) rfl (by first | rfl | (simp only [go_sem, Bool.and_self, Bool.and_true, Bool.true_and])) (by first | rfl | (simp only [go_sem, Bool.and_self, Bool.and_true, Bool.true_and])) ?_; simp only [Tryd.ntmps65, Tryd.results65, List.length_cons, List.length_nil, Nat.reduceAdd, Nat.reduceSub, List.replicate_succ, List.replicate_zero, List.cons_append, List.nil_append])
    repeat (first | (with_reducible first | refine Stp.up ?_ | refine fun (K : AS → Prop) hK => ?_ | refine wE ?_ | refine wD ?_ | refine wK ?_ | refine wF ?_ | refine adrawG_k (by decide) ?_ | refine adrawG_e (by decide) ?_ | (refine hK _ ?_; clear hK; clear K)) | simp only [go_sem] | (with_reducible refine And.intro (by omega) ?_) | (clear hK; clear K))
    refine awp_loopF (ι := Nat) (fun k => [(1, .ptr 0 0 3 0 0), (2, .v (.int .i64 0)), (3, .v (.int .i64 (1 + ((l.take k).flatMap exParts).length : Nat))), (4, .v (.int .i64 k))]) (fun _ => [some ⟨25, 3, false, [[.v (.int .i64 kd), .v (.string s), .slc 3 (l.map encE) l.length]]⟩]) (fun k => l.length - k) (fun k => k ≤ l.length) 0 (by omega) ?_ ?_
    · (refine wk_mk ?_ ?_ ?_ <;> simp only [frm, List.foldl_cons, List.foldl_nil, List.replicate_succ, List.replicate_zero, WkT, WkO, AV.v.injEq, Value.int.injEq, Value.bool.injEq, Value.string.injEq, AV.vec.injEq, AV.ptr.injEq, true_or, or_true, false_or, or_false, AObj.mk.injEq, forall_eq_apply_imp_iff, forall_eq, forall_eq', go_sem])
      exact ⟨rfl, rfl⟩
    · intro k hk K hK
      simp only [frm, List.foldl_cons, List.foldl_nil, List.replicate_succ, List.replicate_zero, go_sem]
      repeat (first | (with_reducible first | refine Stp.up ?_ | refine fun (K : AS → Prop) hK => ?_ | refine wE ?_ | refine wD ?_ | refine wK ?_ | refine wF ?_ | refine adrawG_k (by decide) ?_ | refine adrawG_e (by decide) ?_ | (refine hK _ ?_; clear hK; clear K)) | simp only [go_sem] | (with_reducible refine And.intro (by omega) ?_) | (clear hK; clear K))
      refine AIf.part (fun h => ?_) (fun h => ?_)
      · have hlt : k < l.length := by (try simp only [bne_iff_ne, ne_eq, bne_eq_false_iff_eq, beq_iff_eq, beq_eq_false_iff_ne, decide_eq_true_eq, decide_eq_false_iff_not, Bool.not_eq_true', Bool.not_eq_false', Bool.not_eq_eq_eq_not, Bool.not_true, Bool.not_false, Int.natCast_inj, Int.ofNat_lt, Int.ofNat_le] at h); omega
        have eW := wrap_succ (k := k) (by omega)
        have eG := getD_map encE l k [] hlt
        have h1 := flat_take_succ exParts l k hlt
        have h2 := flat_take_le exParts l (k + 1)
        have h3 := flat_mem_le exParts l l[k] (List.getElem_mem hlt)
        have C := ih l[k] (List.getElem_mem hlt) (by omega)
        have eN : IntKind.i64.wrap (((1 + ((l.take k).flatMap exParts).length : Nat) : Int) + (((exParts l[k]).length : Nat) : Int)) = ((1 + ((l.take (k + 1)).flatMap exParts).length : Nat) : Int) := by
          rw [wrap_id (by omega) (by omega)]; omega
        simp only [encE_eq] at C eG
        repeat (first | (with_reducible first | refine Stp.up ?_ | refine fun (K : AS → Prop) hK => ?_ | refine wE ?_ | refine wD ?_ | refine wK ?_ | refine wF ?_ | refine adrawG_k (by decide) ?_ | refine adrawG_e (by decide) ?_ | (refine hK _ ?_; clear hK; clear K)) | simp only [go_sem, eG] | (with_reducible refine And.intro (by omega) ?_) | (clear hK; clear K))
        refine ACallV.one C ?_
        repeat (first | (with_reducible first | refine Stp.up ?_ | refine fun (K : AS → Prop) hK => ?_ | refine wE ?_ | refine wD ?_ | refine wK ?_ | refine wF ?_ | refine adrawG_k (by decide) ?_ | refine adrawG_e (by decide) ?_ | (refine hK _ ?_; clear hK; clear K)) | simp only [go_sem, eW, eN] | (with_reducible refine And.intro (by omega) ?_) | (clear hK; clear K))
        exact LNext.mk (k + 1) (by omega) (by omega) (by (refine wk_mk ?_ ?_ ?_ <;> simp only [frm, List.foldl_cons, List.foldl_nil, List.replicate_succ, List.replicate_zero, WkT, WkO, AV.v.injEq, Value.int.injEq, Value.bool.injEq, Value.string.injEq, AV.vec.injEq, AV.ptr.injEq, true_or, or_true, false_or, or_false, AObj.mk.injEq, forall_eq_apply_imp_iff, forall_eq, forall_eq', go_sem]))
      · have he : k = l.length := by (try simp only [bne_iff_ne, ne_eq, bne_eq_false_iff_eq, beq_iff_eq, beq_eq_false_iff_ne, decide_eq_true_eq, decide_eq_false_iff_not, Bool.not_eq_true', Bool.not_eq_false', Bool.not_eq_eq_eq_not, Bool.not_true, Bool.not_false, Int.natCast_inj, Int.ofNat_lt, Int.ofNat_le] at h); omega
        have eA : l.take k = l := by rw [he, List.take_length]
        repeat (first | (with_reducible first | refine Stp.up ?_ | refine fun (K : AS → Prop) hK => ?_ | refine wE ?_ | refine wD ?_ | refine wK ?_ | refine wF ?_ | refine adrawG_k (by decide) ?_ | refine adrawG_e (by decide) ?_ | (refine hK _ ?_; clear hK; clear K)) | simp only [go_sem, eA] | (with_reducible refine And.intro (by omega) ?_) | (clear hK; clear K))

end Go.Proofs.YtmdkgajjekbanaaDoor

namespace Go.Proofs.YtmdkgajjekbanaaDoor
open Go.RowKit

theorem parts_sub (x : Ex) : ∀ y, y ∈ exParts x → (exParts y).length ≤ (exParts x).length := by
  induction x using Ex.ind with
  | h k s l ih =>
    intro y hy
    rw [exParts, exsParts_eq] at hy
    rcases List.mem_cons.1 hy with rfl | hy
    · exact Nat.le_refl _
    · obtain ⟨z, hz, hy⟩ := List.mem_flatMap.1 hy
      have h1 := ih z hz y hy
      have h2 := flat_mem_le exParts l z hz
      rw [exParts_kids]; omega
theorem kids_le (x : Ex) : x.kids.length ≤ (exParts x).length := by
  obtain ⟨k, s, l⟩ := x
  rw [exParts_kids]
  have := flat_len l
  simp only [Ex.kids]; omega
theorem part_ok (x : Ex) : x.ok → ∀ y, y ∈ exParts x → okT y.label := by
  induction x using Ex.ind with
  | h k s l ih =>
    intro h y hy
    rw [Ex.ok] at h
    rw [exParts, exsParts_eq] at hy
    rcases List.mem_cons.1 hy with rfl | hy
    · exact h.1
    · obtain ⟨z, hz, hy⟩ := List.mem_flatMap.1 hy
      exact ih z hz (exsOk_iff.1 h.2 z hz) y hy

end Go.Proofs.YtmdkgajjekbanaaDoor
