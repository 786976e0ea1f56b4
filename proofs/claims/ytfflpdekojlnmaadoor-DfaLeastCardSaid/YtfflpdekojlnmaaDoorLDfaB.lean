/- dfa: what sets, parts and least call: a step of positions, Index, Contains of numbers, maps of texts and of numbers; an own map, told as one that stays. -/
import Derived.Test.YtfflpdekojlnmaaDoorLDfaK
import Derived.Test.YtfflpdekojlnmaaDoorLLens
import Derived.Test.YtfflpdekojlnmaaDoorLExprC
import Derived.Test.YtfflpdekojlnmaaDoorLAbsW
set_option linter.unusedSimpArgs false
set_option linter.unusedVariables false
namespace Go.Proofs.YtfflpdekojlnmaaDoor
open Go.RowKit

section
variable {D : Nat → Prop} {nu : Nat → Nat → Value} {o : List (Option AObj)} {w : World} {P : Program}
theorem map_mp (h : RO D nu o w) {id : Nat} {ob : AObj} (ho : o[id]? = some (some ob)) (hv : ob.isV = false) (hz : ob.z = 0) : RA D nu (o.set id none) w (.mp ob.rows) (nu id 0) := by
 rcases h.obj id ob ho with ⟨e1, _⟩ | ⟨g, cur, hb⟩ | ⟨g, es, cl, hm⟩
 ·rw [e1] at hv; cases hv
 ·have := hb.z; omega
 ·rw [hm.hdr]
  have hf : Fz D nu (o.set id none) w g := by
   refine ⟨(Array.getElem?_eq_some_iff.1 hm.blk).1, ?_, hm.dom⟩
   rintro ⟨id', ob', k1, k2⟩
   by_cases he : id = id'
   ·subst he
    rw [List.getElem?_set_self (List.getElem?_eq_some_iff.1 ho).1] at k1; cases k1
   ·rw [List.getElem?_set_ne he] at k1
    exact h.sep id id' ob ob' g ho k1 he hm.blkEq k2
  refine .mp _ g es cl hf hm.blk hm.sz hm.row hm.born hm.rise (fun i j row c e k1 k2 k3 => ?_)
  have hl := hm.row i row k1
  have hj := (List.getElem?_eq_some_iff.1 k2).1
  match j, hj, k2 with
  | 0, _, k2 => exact (hm.key i row c e k1 k2 k3).mono (kill_mono id) (fun _ _ h => h)
  | 1, _, k2 => exact (hm.val i row c e k1 k2 k3).mono (kill_mono id) (fun _ _ h => h)
  | j + 2, hj, _ => omega
theorem turn_freeM {s : AS} (i id : Nat) {ob : AObj} (hi : s.t[i]? = some (.vec id 0)) (ho : s.o[id]? = some (some ob)) (hv : ob.isV = false) (hz : ob.z = 0) : Turn s (AS.mk (s.t.set i (.mp ob.rows)) (s.o.set id none) s.y) := by
 intro f D nu a w hs
 have hm := kill_mono (nu := nu) (o := s.o) (w := w) id
 refine ⟨nu, hm, rfl, kill_RO hs.ro id, ⟨by simpa using hs.tm.len, fun j c x h1 h2 => ?_⟩, hs.dfr⟩
 by_cases hij : i = j
 ·subst hij
  rw [List.getElem?_set_self (List.getElem?_eq_some_iff.1 hi).1] at h1
  cases h1
  have hr := hs.tm.at' i _ x hi h2
  cases hr
  exact map_mp hs.ro ho hv hz
 ·rw [List.getElem?_set_ne hij] at h1
  exact (hs.tm.at' j c x h1 h2).mono hm (fun _ _ h => h)
end
/-! ### a step of positions -/
theorem stepL_c {s : NSt} (ok : NOk s) (l : List Nat) (lab : ByteArray) (hl : l.length ≤ 1000000) : Call1 Tryd.prog 29 [.vp (nfaV s), .slc 1 (encN l) l.length, .v (.string lab)] (.slc 1 (encN (stepL s l lab)) (stepL s l lab).length) := by
 have h := nStep_c ok (intsN l) lab (by rw [intsN_len]; exact hl)
 rw [intsN_len, ← encN_ints] at h
 exact h
/-! ### numbers among numbers -/
set_option maxRecDepth 100000 in
set_option maxHeartbeats 4000000 in
theorem indexI_c (l : List Nat) (n : Nat) (hl : l.length ≤ 1000000) : ∃ k : Int, (decide (0 ≤ k) = l.contains n) ∧ Call1 Tryd.prog 51 [.slc 1 (encN l) l.length, .v (.int .i64 n)] (.v (.int .i64 k)) := by
 refine ⟨if l.contains n then (l.idxOf n : Int) else -1, by split <;> simp_all <;> omega, ?_⟩
 (refine Call1.enter Tryd.func51 rfl (by kernel_rfl) (by kernel_rfl) rfl (by first | rfl | (simp only [go_sem, Bool.and_self, Bool.and_true, Bool.true_and])) (by first | rfl | (simp only [go_sem, Bool.and_self, Bool.and_true, Bool.true_and])) ?_; simp only [Tryd.ntmps51, Tryd.results51, List.length_cons, List.length_nil, Nat.reduceAdd, Nat.reduceSub, List.replicate_succ, List.replicate_zero, List.cons_append, List.nil_append])
 repeat (first | (with_reducible first | refine Stp.up ?_ | refine fun (K : AK) hK => ?_ | (refine hK _ ?_; clear hK K)) | simp only [go_sem] | with_reducible refine wA ?_ | clear hK K)
 refine awp_loopK (ι := Nat) 8 (fun i => [(5, .undef), (8, .v (.int .i64 i))]) (fun i => l.length - i) (fun i => i ≤ l.length ∧ n ∉ l.take i) 0 ⟨Nat.zero_le _, by simp⟩ ?_ ?_
 ·(refine wk_mk ?_ ?_ ?_ <;> simp only [frm, List.foldl_cons, List.foldl_nil, List.replicate_succ, List.replicate_zero, WkT, WkO, AV.v.injEq, Value.int.injEq, Value.bool.injEq, Value.string.injEq, AV.vec.injEq, AV.ptr.injEq, true_or, or_true, false_or, or_false, AObj.mk.injEq, forall_eq_apply_imp_iff, forall_eq, forall_eq', go_sem])
  rfl
 rintro i ⟨hi, hn⟩ K hK
 repeat (first | (with_reducible first | refine Stp.up ?_ | refine fun (K : AK) hK => ?_ | (refine hK _ ?_; clear hK K)) | simp only [go_sem] | with_reducible refine wA ?_ | clear hK K)
 refine AIf.part (fun h => ?_) (fun h => ?_)
 ·have hlt : i < l.length := by (try simp only [bne_iff_ne, ne_eq, bne_eq_false_iff_eq, beq_iff_eq, beq_eq_false_iff_ne, decide_eq_true_eq, decide_eq_false_iff_not, Bool.not_eq_eq_eq_not, Int.natCast_inj, Int.ofNat_lt, Int.ofNat_le] at h); omega
  have eW := wrap_succ (k := i) (by omega)
  have eG : (encN l).getD i [] = [.v (.int .i64 (l[i] : Nat))] := by rw [encN, getD_map _ l i [] hlt]
  repeat (first | (with_reducible first | refine Stp.up ?_ | refine fun (K : AK) hK => ?_ | (refine hK _ ?_; clear hK K)) | simp only [go_sem, h, eG] | with_reducible refine wA ?_ | clear hK K)
  refine AIf.part (fun h2 => ?_) (fun h2 => ?_)
  ·have hc : n = l[i] := by (try simp only [bne_iff_ne, ne_eq, bne_eq_false_iff_eq, beq_iff_eq, beq_eq_false_iff_ne, decide_eq_true_eq, decide_eq_false_iff_not, Bool.not_eq_eq_eq_not, Int.natCast_inj, Int.ofNat_lt, Int.ofNat_le] at h2); omega
   have hm : l.contains n = true := by rw [List.contains_iff_mem, hc]; exact List.getElem_mem hlt
   have hx : l.idxOf n = i := by
    have h1 : l.idxOf n ≤ i := by
     exact idxOf_le l n i (by rw [hc]; exact List.getElem?_eq_getElem hlt)
    rcases Nat.lt_or_ge (l.idxOf n) i with q | q
    ·exfalso
     have hq : l.idxOf n < l.length := by omega
     refine hn (List.mem_take_iff_getElem.2 ⟨l.idxOf n, by omega, ?_⟩)
     exact List.getElem_idxOf hq
    ·omega
   repeat (first | (with_reducible first | refine Stp.up ?_ | refine fun (K : AK) hK => ?_ | (refine hK _ ?_; clear hK K)) | simp only [go_sem] | with_reducible refine wA ?_ | clear hK K)
   rw [hm, if_pos rfl, hx]
  ·have hc : n ≠ l[i] := by (try simp only [bne_iff_ne, ne_eq, bne_eq_false_iff_eq, beq_iff_eq, beq_eq_false_iff_ne, decide_eq_true_eq, decide_eq_false_iff_not, Bool.not_eq_eq_eq_not, Int.natCast_inj, Int.ofNat_lt, Int.ofNat_le] at h2); omega
   repeat (first | (with_reducible first | refine Stp.up ?_ | refine fun (K : AK) hK => ?_ | (refine hK _ ?_; clear hK K)) | simp only [go_sem, eW] | with_reducible refine wA ?_ | clear hK K)
   exact LNext.mk (i + 1) ⟨by omega, by
    rw [List.take_succ_eq_append_getElem hlt, List.mem_append]
    rintro (e | e)
    ·exact hn e
    ·exact hc (by simpa using e)⟩ (by omega) (by (refine wk_mk ?_ ?_ ?_ <;> simp only [frm, List.foldl_cons, List.foldl_nil, List.replicate_succ, List.replicate_zero, WkT, WkO, AV.v.injEq, Value.int.injEq, Value.bool.injEq, Value.string.injEq, AV.vec.injEq, AV.ptr.injEq, true_or, or_true, false_or, or_false, AObj.mk.injEq, forall_eq_apply_imp_iff, forall_eq, forall_eq', go_sem]))
 ·have hm : l.contains n = false := by
   have : i = l.length := by (try simp only [bne_iff_ne, ne_eq, bne_eq_false_iff_eq, beq_iff_eq, beq_eq_false_iff_ne, decide_eq_true_eq, decide_eq_false_iff_not, Bool.not_eq_eq_eq_not, Int.natCast_inj, Int.ofNat_lt, Int.ofNat_le] at h); omega
   rw [this, List.take_length] at hn
   rw [← Bool.not_eq_true, List.contains_iff_mem]; exact hn
  repeat (first | (with_reducible first | refine Stp.up ?_ | refine fun (K : AK) hK => ?_ | (refine hK _ ?_; clear hK K)) | simp only [go_sem] | with_reducible refine wA ?_ | clear hK K)
  rw [hm, if_neg (by decide)]
set_option maxRecDepth 100000 in
theorem containsI_c (l : List Nat) (n : Nat) (hl : l.length ≤ 1000000) : Call1 Tryd.prog 31 [.slc 1 (encN l) l.length, .v (.int .i64 n)] (.v (.bool (l.contains n))) := by
 obtain ⟨k, hk, C⟩ := indexI_c l n hl
 (refine Call1.enter Tryd.func31 rfl (by kernel_rfl) (by kernel_rfl) rfl (by first | rfl | (simp only [go_sem, Bool.and_self, Bool.and_true, Bool.true_and])) (by first | rfl | (simp only [go_sem, Bool.and_self, Bool.and_true, Bool.true_and])) ?_; simp only [Tryd.ntmps31, Tryd.results31, List.length_cons, List.length_nil, Nat.reduceAdd, Nat.reduceSub, List.replicate_succ, List.replicate_zero, List.cons_append, List.nil_append])
 repeat (first | (with_reducible first | refine Stp.up ?_ | refine fun (K : AK) hK => ?_ | (refine hK _ ?_; clear hK K)) | simp only [go_sem] | clear hK K)
 refine ACallV.one C ?_
 repeat (first | (with_reducible first | refine Stp.up ?_ | refine fun (K : AK) hK => ?_ | (refine hK _ ?_; clear hK K)) | simp only [go_sem] | clear hK K)
 rw [← hk]
def idxI (p : Nat → Bool) : List Nat → Nat → Int
 | [], _ => -1
 | x :: xs, i => if p x then (i : Int) else idxI p xs (i + 1)
theorem idxI_any (p : Nat → Bool) : ∀ (l : List Nat) (i : Nat), decide (0 ≤ idxI p l i) = l.any p
 | [], i => rfl
 | x :: xs, i => by
  rw [idxI, List.any_cons]
  cases p x with
  | true => simp
  | false => simpa using idxI_any p xs (i + 1)
set_option maxRecDepth 100000 in
set_option maxHeartbeats 4000000 in
theorem indexFuncI_c {g : FuncId} (caps : List AV) (hw : wfL 0 caps = true) (p : Nat → Bool) (l : List Nat) (hl : l.length ≤ 1000000) (H : ∀ x : Nat, Call1 Tryd.prog g (.v (.int .i64 x) :: caps) (.v (.bool (p x)))) :
  Call1 Tryd.prog 52 [.slc 1 (encN l) l.length, .fn g [] caps] (.v (.int .i64 (idxI p l 0))) := by
 (refine Call1.enter Tryd.func52 rfl (by kernel_rfl) (by kernel_rfl) rfl (by simp only [go_sem, wfL, AV.wf, Bool.and_self, Bool.and_true, Bool.true_and, hw]) (by simp only [go_sem, wfL, AV.wf, wf_encS, Bool.and_self, Bool.and_true, Bool.true_and, hw]) ?_; simp only [Tryd.ntmps52, Tryd.results52, List.length_cons, List.length_nil, Nat.reduceAdd, Nat.reduceSub, List.replicate_succ, List.replicate_zero, List.cons_append, List.nil_append])
 repeat (first | (with_reducible first | refine Stp.up ?_ | refine fun (K : AK) hK => ?_ | (refine hK _ ?_; clear hK K)) | simp only [go_sem] | with_reducible refine wA ?_ | clear hK K)
 refine awp_loopK (ι := Nat) 8 (fun i => [(5, .undef), (8, .v (.int .i64 i))]) (fun i => l.length - i) (fun i => i ≤ l.length ∧ idxI p l 0 = idxI p (l.drop i) i) 0 ⟨Nat.zero_le _, rfl⟩ ?_ ?_
 ·(refine wk_mk ?_ ?_ ?_ <;> simp only [frm, List.foldl_cons, List.foldl_nil, List.replicate_succ, List.replicate_zero, WkT, WkO, AV.v.injEq, Value.int.injEq, Value.bool.injEq, Value.string.injEq, AV.vec.injEq, AV.ptr.injEq, true_or, or_true, false_or, or_false, AObj.mk.injEq, forall_eq_apply_imp_iff, forall_eq, forall_eq', go_sem])
  all_goals first | exact hw | rfl | exact ⟨hw, rfl⟩
 rintro i ⟨hi, hx⟩ K hK
 repeat (first | (with_reducible first | refine Stp.up ?_ | refine fun (K : AK) hK => ?_ | (refine hK _ ?_; clear hK K)) | simp only [go_sem] | with_reducible refine wA ?_ | clear hK K)
 refine AIf.part (fun h => ?_) (fun h => ?_)
 ·have hlt : i < l.length := by (try simp only [decide_eq_true_eq, decide_eq_false_iff_not, Int.ofNat_lt] at h); omega
  have eW := wrap_succ (k := i) (by omega)
  have eG : (encN l).getD i [] = [.v (.int .i64 (l[i] : Nat))] := by rw [encN, getD_map _ l i [] hlt]
  have HX := H l[i]
  rw [List.drop_eq_getElem_cons hlt, idxI] at hx
  repeat (first | (with_reducible first | refine Stp.up ?_ | refine fun (K : AK) hK => ?_ | (refine hK _ ?_; clear hK K)) | simp only [go_sem, eG] | with_reducible refine wA ?_ | clear hK K)
  refine ACallV.one HX ?_
  rcases Bool.eq_false_or_eq_true (p l[i]) with hp | hp
  ·rw [hp, if_pos rfl] at hx
   repeat (first | (with_reducible first | refine Stp.up ?_ | refine fun (K : AK) hK => ?_ | (refine hK _ ?_; clear hK K)) | simp only [go_sem, hp] | with_reducible refine wA ?_ | clear hK K)
   rw [hx]
  ·rw [hp, if_neg (by decide)] at hx
   repeat (first | (with_reducible first | refine Stp.up ?_ | refine fun (K : AK) hK => ?_ | (refine hK _ ?_; clear hK K)) | simp only [go_sem, hp, eW] | with_reducible refine wA ?_ | clear hK K)
   refine LNext.mk (i + 1) ⟨by omega, hx⟩ (by omega) ?_
   (refine wk_mk ?_ ?_ ?_ <;> simp only [frm, List.foldl_cons, List.foldl_nil, List.replicate_succ, List.replicate_zero, WkT, WkO, AV.v.injEq, Value.int.injEq, Value.bool.injEq, Value.string.injEq, AV.vec.injEq, AV.ptr.injEq, true_or, or_true, false_or, or_false, AObj.mk.injEq, forall_eq_apply_imp_iff, forall_eq, forall_eq', go_sem])
   all_goals first | exact hw | rfl
 ·have : i = l.length := by (try simp only [decide_eq_true_eq, decide_eq_false_iff_not, Int.ofNat_lt] at h); omega
  rw [this, List.drop_length, idxI] at hx
  repeat (first | (with_reducible first | refine Stp.up ?_ | refine fun (K : AK) hK => ?_ | (refine hK _ ?_; clear hK K)) | simp only [go_sem] | with_reducible refine wA ?_ | clear hK K)
  rw [hx]
set_option maxRecDepth 100000 in
theorem containsFuncI_c {g : FuncId} (caps : List AV) (hw : wfL 0 caps = true) (p : Nat → Bool) (l : List Nat) (hl : l.length ≤ 1000000) (H : ∀ x : Nat, Call1 Tryd.prog g (.v (.int .i64 x) :: caps) (.v (.bool (p x)))) :
  Call1 Tryd.prog 33 [.slc 1 (encN l) l.length, .fn g [] caps] (.v (.bool (l.any p))) := by
 have C := indexFuncI_c caps hw p l hl H
 (refine Call1.enter Tryd.func33 rfl (by kernel_rfl) (by kernel_rfl) rfl (by simp only [go_sem, wfL, AV.wf, Bool.and_self, Bool.and_true, Bool.true_and, hw]) (by simp only [go_sem, wfL, AV.wf, wf_encS, Bool.and_self, Bool.and_true, Bool.true_and, hw]) ?_; simp only [Tryd.ntmps33, Tryd.results33, List.length_cons, List.length_nil, Nat.reduceAdd, Nat.reduceSub, List.replicate_succ, List.replicate_zero, List.cons_append, List.nil_append])
 repeat (first | (with_reducible first | refine Stp.up ?_ | refine fun (K : AK) hK => ?_ | (refine hK _ ?_; clear hK K)) | simp only [go_sem] | clear hK K)
 refine ACallV.one C ?_
 repeat (first | (with_reducible first | refine Stp.up ?_ | refine fun (K : AK) hK => ?_ | (refine hK _ ?_; clear hK K)) | simp only [go_sem] | clear hK K)
 rw [idxI_any]
set_option maxRecDepth 100000 in
theorem isLast_c (last : List Nat) (n : Nat) (hl : last.length ≤ 1000000) : Call1 Tryd.prog 30 [.v (.int .i64 n), .vp [.slc 1 (encN last) last.length]] (.v (.bool (last.contains n))) := by
 have C := containsI_c last n hl
 (refine Call1.enter Tryd.func30 rfl (by kernel_rfl) (by kernel_rfl) rfl (by first | rfl | (simp only [go_sem, Bool.and_self, Bool.and_true, Bool.true_and])) (by first | rfl | (simp only [go_sem, Bool.and_self, Bool.and_true, Bool.true_and])) ?_; simp only [Tryd.ntmps30, Tryd.results30, List.length_cons, List.length_nil, Nat.reduceAdd, Nat.reduceSub, List.replicate_succ, List.replicate_zero, List.cons_append, List.nil_append])
 repeat (first | (with_reducible first | refine Stp.up ?_ | refine fun (K : AK) hK => ?_ | (refine hK _ ?_; clear hK K)) | simp only [go_sem] | clear hK K)
 refine ACallV.one C ?_
 repeat (first | (with_reducible first | refine Stp.up ?_ | refine fun (K : AK) hK => ?_ | (refine hK _ ?_; clear hK K)) | simp only [go_sem] | clear hK K)
/-! ### maps: texts' places, numbers' places -/
def knM (l : List ByteArray) : List (List AV) := mRow (l.zipIdx)
theorem knM_len (l : List ByteArray) : (knM l).length = l.length := by simp [knM, mRow]
theorem look_zip (l : List ByteArray) (s : ByteArray) : ∀ k, look (l.zipIdx k) s = (pos l s).map (fun i => i + k) := by
 induction l with
 | nil => intro k; simp [look, pos]
 | cons a l ih =>
  intro k
  rw [List.zipIdx_cons]
  have := ih (k + 1)
  simp only [look, pos, List.find?_cons, List.findIdx?_cons] at this ⊢
  cases h : seqb s a
  ·simp only [Bool.false_eq_true, if_false]
   rw [this, Option.map_map]
   congr 1; funext i; simp; omega
  ·simp
theorem aGet_k (s : ByteArray) (l : List ByteArray) : aGet .string (.string s) (knM l) = some ((pos l s).map (fun n => .v (.int .i64 (n : Nat)))) := by
 rw [knM, aGet_r, look_zip, Option.map_map]; rfl
theorem knM_snoc (l : List ByteArray) (s : ByteArray) : knM (l ++ [s]) = mRow (l.zipIdx ++ [(s, l.length)]) := by rw [knM, List.zipIdx_append]; simp
theorem aSet_k (s : ByteArray) (l : List ByteArray) (h : pos l s = none) : aSet .string (.string s) (.v (.int .i64 (l.length : Nat))) (knM l) = some (knM (l ++ [s])) := by
 rw [knM, aSet_r s l.length _ (by rw [look_zip, h]; rfl), knM_snoc]
@[go_sem] theorem wf_knM (n : Nat) (l : List ByteArray) : wfR n (knM l) = true := wf_mRow n _
end Go.Proofs.YtfflpdekojlnmaaDoor
