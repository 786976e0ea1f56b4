/- kinescoperef08.of. -/
import Derived.Test.YtmdkgajjekbanaaDoorERef08
import Derived.Test.YtmdkgajjekbanaaDoorEOfP
import Derived.Test.YtmdkgajjekbanaaDoorEPart3
set_option linter.unusedSimpArgs false
set_option linter.unusedVariables false
namespace Go.Proofs.YtmdkgajjekbanaaDoor
open Go.RowKit

open Classical in
noncomputable def fstB (x : Ex) (b q : Nat) : Bool := decide (Fst x b (q + 1))
open Classical in
noncomputable def lstB (x : Ex) (b q : Nat) : Bool := decide (Lst x b (q + 1))
open Classical in
noncomputable def folB (x : Ex) (b p q : Nat) : Bool := decide (Fol x b (p + 1) (q + 1))
theorem fstB_iff {x : Ex} {b q : Nat} : fstB x b q = true ↔ Fst x b (q + 1) := by simp [fstB]
theorem lstB_iff {x : Ex} {b q : Nat} : lstB x b q = true ↔ Lst x b (q + 1) := by simp [lstB]
theorem folB_iff {x : Ex} {b p q : Nat} : folB x b p q = true ↔ Fol x b (p + 1) (q + 1) := by simp [folB]
theorem appG {I : List (Option AObj)} {z : Nat} (h : I.length = z) (tl : List (Option AObj)) (j : Nat) : (I ++ tl)[z + j]? = tl[j]? := by
 rw [List.getElem?_append_right (by omega), h, Nat.add_sub_cancel_left]
theorem appG0 {I : List (Option AObj)} {z : Nat} (h : I.length = z) (tl : List (Option AObj)) : (I ++ tl)[z]? = tl[0]? := by
 rw [List.getElem?_append_right (by omega), h, Nat.sub_self]
theorem appS {I : List (Option AObj)} {z : Nat} (h : I.length = z) (tl : List (Option AObj)) (j : Nat) (x : Option AObj) : (I ++ tl).set (z + j) x = I ++ tl.set j x := by
 rw [List.set_append_right _ _ (by omega), h, Nat.add_sub_cancel_left]
theorem appS0 {I : List (Option AObj)} {z : Nat} (h : I.length = z) (tl : List (Option AObj)) (x : Option AObj) : (I ++ tl).set z x = I ++ tl.set 0 x := by
 rw [List.set_append_right _ _ (by omega), h, Nat.sub_self]
set_option maxRecDepth 100000 in
theorem awp_of2 {n0 id n : Nat} {s : AS} {Q : AExit → AS → Prop} {l : List Oper} {ax : AV} {em : Bool} (hn : n ≤ 1000)
  (hl : l = ops3 42 25 77 (.call ⟨.value (.func 45), #[.tmp 26], #[25]⟩) (fun i => (l.getD i default).type) (fun i => (l.getD i default).pos) (fun i => (l.getD i default).after) (l.getD 8 default))
  (hB : relTB l.toArray 8 = true) (hC : calmB l.toArray = true)
  (hdp : depB l.toArray 1 0 = true ∧ depB l.toArray 3 2 = true ∧ depB l.toArray 5 4 = true ∧ depB l.toArray 6 1 = true ∧ depB l.toArray 6 3 = true ∧ depB l.toArray 6 5 = true)
  (hlen : 29 ≤ s.t.length) (hmv : s.ev (.tmp 5) = .v (.int .i64 n))
  (hld : ADoS Tryd.prog (.load 25 (.tmp 3)) s (fun r => r = ax)) (hcl : Call1 Tryd.prog 45 [ax] (.v (.bool em)))
  (h : ATail Tryd.prog l [l.getD 8 default] ⟨slots3 s.t s.o.length n em, s.o ++ [some ⟨4, 1, true, rwB n (fun _ => false)⟩, some ⟨4, 1, true, rwB n (fun _ => false)⟩, some ⟨77, 3, false, [[.v (.slice none 0 0), .v (.slice none 0 0), .v (.bool false)]]⟩], s.y⟩ (Q .normal)) :
  AWp Tryd.prog n0 (.region id l.toArray true) s Q := by
 have e1 : aMkS Tryd.prog 42 (.v (.int .i64 n)) (.v (.int .i64 n)) = some (0 ≤ (n : Int) ∧ (n : Int) ≤ (n : Int) ∧ (n : Int).toNat * 1 ≤ 140737488355328 ∧ (n : Int).toNat ≤ 140737488355328, 4, 1, n, [.v (.bool false)]) := by
  simp only [go_sem]
 have e2 : aAlS Tryd.prog 77 = some (True, 77, 3, 1, [.v (.slice none 0 0), .v (.slice none 0 0), .v (.bool false)]) := by
  first | (simp only [go_sem]; done) | (simp only [go_sem]; rfl)
 rw [← rwB_false] at h
 refine awp_part3l 42 25 77 _ hl hB hC hdp hlen hmv e1 ⟨by omega, by omega, by omega, by omega⟩ e2 (by decide) hld ?_ (fun v1 v3 h1 h3 => ?_) h
 ·have ev : AS.ev ⟨slots2 s.t ax, s.o, s.y⟩ (.tmp 26) = ax := by rw [slots2]; exact ev_self (by simp; omega)
  simp only [ADoS, List.map_cons, List.map_nil, ev]
  exact ACallS.one hcl rfl
 ·have c1 : (AV.v v1).cells? = some [.v v1] := by simp only [AV.cells?, h1, if_true]
  have c3 : (AV.v v3).cells? = some [.v v3] := by simp only [AV.cells?, h3, if_true]
  have c5 : (AV.v (.bool em)).cells? = some [.v (.bool em)] := rfl
  have tp : tPl Tryd.prog 77 = some ([(0, 1), (1, 1), (2, 1)], [.v (.slice none 0 0), .v (.slice none 0 0), .v (.bool false)]) := by
   simp only [go_sem]
  simp [aBuild, tp, aFill, c1, c3, c5, spl]
theorem afw_n {k : Nat} {y : Ex} {labs : List ByteArray} {n : Nat} {f : Nat → Nat → Bool} {tl : List (Option AObj)} {r : AV} (hk : k ≤ 2 * n + 3) (hr : ∀ m, r.wf m = true) :
  AFw k (some ⟨45, 8, false, [nRow 0 y labs.length n]⟩ :: some ⟨9, 1, true, labs.map encS⟩ :: some ⟨42, 1, true, outRows 2 n n⟩ :: (inObs n f n ++ tl)) r r (nObs 0 y labs n f) := by
 refine ⟨⟨.inr ⟨rfl, hr _⟩, trivial⟩, ?_, by rw [nObs_len]; exact hk⟩
 have := wkO_app (n := (nObs 0 y labs n f).length) (a := tl) (b := []) (l := nObs 0 y labs n f) (wf_nObs (by rw [nObs_len]; omega)) (by cases tl <;> exact trivial)
 rw [List.append_nil] at this
 exact this
def OfC (x : Ex) : Prop := ∀ (y : Ex) (labs : List ByteArray) (n : Nat) (f : Nat → Nat → Bool), n ≤ 1000 → labs.length + (labE x).length ≤ n →
 CallE Tryd.prog 47 [.ptr 0 0 8 0 0, .agg (encE x)] (nObs 0 y labs n f) (.agg [.slc 1 (rwB n (fstB x labs.length)) n, .slc 1 (rwB n (lstB x labs.length)) n, .v (.bool (exEmpty x))]) (nObs 0 y (labs ++ labE x) n (fun p q => f p q || folB x labs.length p q))
set_option maxRecDepth 100000 in
set_option maxHeartbeats 4000000 in
theorem of_lab (s : ByteArray) (h1 : exRight (.mk 1 s []) = true) (hz : ∀ z, z ∈ exParts (.mk 1 s []) → z.kids.length ≤ 1000000 ∧ z.label.size ≤ 1000000000000000) : OfC (.mk 1 s []) := by
 intro y labs n f hn hb
 have E := empty07_c (.mk 1 s []) (by simp [exParts, exsParts]) hz
 rw [emptyB, h1, Bool.true_and] at E
 simp only [encE_eq, Ex.kind, Ex.label, Ex.kids, List.map_nil, List.length_nil] at E ⊢
 (refine CallE.enter Tryd.func47 rfl (by kernel_rfl) (by kernel_rfl) rfl ?_; simp only [Tryd.ntmps47, Tryd.results47, List.length_cons, List.length_nil, Nat.reduceAdd, Nat.reduceSub, List.replicate_succ, List.replicate_zero, List.cons_append, List.nil_append])
 simp only [nObs, mObs, nRow, Nat.zero_add]
 obtain ⟨I, hI⟩ : ∃ I, I = inObs n f n := ⟨_, rfl⟩
 have hIl : I.length = 2 * n := by rw [hI, inObs_len]
 rw [← hI]
 generalize 2 * n = z at hIl
 have g1 := fun tl j => appG hIl tl j
 have g0 := fun tl => appG0 hIl tl
 have s1 := fun tl j x => appS hIl tl j x
 have s0 := fun tl x => appS0 hIl tl x
 repeat ((fail_if_success (with_reducible refine stopR (i := 2) ?_)); first | (with_reducible first | refine Stp.up ?_ | refine fun (K : AK) hK => ?_ | refine wK ?_ | refine wF ?_ | refine adrawG_k (by decide) ?_ | refine adrawG_e (by decide) ?_ | (refine hK _ ?_; clear hK K)) | simp only [go_sem, hIl, g0, g1, s0, s1, List.length_append] | with_reducible refine wA ?_ | clear hK K)
 refine awp_of2 (n := n) (em := exEmpty (.mk 1 s [])) (ax := .agg [.v (.int .i64 1), .v (.string s), .slc 3 [] 0]) hn rfl (by decide +kernel) (by kernel_rfl) (by decide +kernel) (by simp) rfl ?_ E ?_
 ·repeat (first | (with_reducible first | refine Stp.up ?_ | refine fun (K : AK) hK => ?_ | refine wK ?_ | refine wF ?_ | refine adrawG_k (by decide) ?_ | refine adrawG_e (by decide) ?_ | (refine hK _ ?_; clear hK K)) | simp only [go_sem, hIl, g0, g1, s0, s1, List.length_append] | with_reducible refine wA ?_ | clear hK K)
 ·repeat (first | (with_reducible first | refine Stp.up ?_ | refine fun (K : AK) hK => ?_ | refine wK ?_ | refine wF ?_ | refine adrawG_k (by decide) ?_ | refine adrawG_e (by decide) ?_ | (refine hK _ ?_; clear hK K)) | simp only [go_sem, hIl, g0, g1, s0, s1, List.length_append, slots3, slots2, List.getD_cons_succ, List.getD_cons_zero] | with_reducible refine wA ?_ | clear hK K)
  repeat ((fail_if_success (with_reducible refine stopR (i := 4) ?_)); first | (with_reducible first | refine Stp.up ?_ | refine fun (K : AK) hK => ?_ | refine wK ?_ | refine wF ?_ | refine adrawG_k (by decide) ?_ | refine adrawG_e (by decide) ?_ | (refine hK _ ?_; clear hK K)) | simp only [go_sem, hIl, g0, g1, s0, s1, List.length_append] | with_reducible refine wA ?_ | clear hK K)
  refine awp_drawG [8, 11] [] (by decide +kernel) (by kernel_rfl) ?_
  repeat (first | (with_reducible first | refine Stp.up ?_ | refine fun (K : AK) hK => ?_ | refine wK ?_ | refine wF ?_ | refine adrawG_k (by decide) ?_ | refine adrawG_e (by decide) ?_ | (refine hK _ ?_; clear hK K)) | simp only [go_sem, hIl, g0, g1, s0, s1, List.length_append] | with_reducible refine wA ?_ | clear hK K)
  repeat ((fail_if_success (with_reducible refine stopR (i := 5) ?_)); first | (with_reducible first | refine Stp.up ?_ | refine fun (K : AK) hK => ?_ | refine wK ?_ | refine wF ?_ | refine adrawG_k (by decide) ?_ | refine adrawG_e (by decide) ?_ | (refine hK _ ?_; clear hK K)) | simp only [go_sem, hIl, g0, g1, s0, s1, List.length_append] | with_reducible refine wA ?_ | clear hK K)
  have hlt : labs.length < n := by simp [labE] at hb; omega
  have eN : IntKind.i64.wrap (((labs.length + 1 : Nat) : Int) - 1) = (labs.length : Int) := by rw [wrap_id (by omega) (by omega)]; omega
  have eR := rwB_at (g := fun _ => false) hlt
  have eS := rwB_set (N := n) (j := labs.length) (g := fun _ => false) (v := true)
  refine wE ?_
  repeat (first | (with_reducible first | refine Stp.up ?_ | refine fun (K : AK) hK => ?_ | refine wK ?_ | refine wF ?_ | refine adrawG_k (by decide) ?_ | refine adrawG_e (by decide) ?_ | (refine hK _ ?_; clear hK K)) | simp only [go_sem, hIl, g0, g1, s0, s1, List.length_append, eN, eR, eS] | with_reducible refine wA ?_ | clear hK K)
  repeat ((fail_if_success (with_reducible refine stopR (i := 6) ?_)); first | (with_reducible first | refine Stp.up ?_ | refine fun (K : AK) hK => ?_ | refine wK ?_ | refine wF ?_ | refine adrawG_k (by decide) ?_ | refine adrawG_e (by decide) ?_ | (refine hK _ ?_; clear hK K)) | simp only [go_sem, hIl, g0, g1, s0, s1, List.length_append, eN, eR, eS] | with_reducible refine wA ?_ | clear hK K)
  refine wE ?_
  repeat ((fail_if_success (with_reducible refine stopR (i := 7) ?_)); first | (with_reducible first | refine Stp.up ?_ | refine fun (K : AK) hK => ?_ | refine wK ?_ | refine wF ?_ | refine adrawG_k (by decide) ?_ | refine adrawG_e (by decide) ?_ | (refine hK _ ?_; clear hK K)) | simp only [go_sem, hIl, g0, g1, s0, s1, List.length_append, eN, eR, eS] | with_reducible refine wA ?_ | clear hK K)
  refine awp_turn (turn_frc (k := z + 2 + 1 + 1 + 1 + 2) (i := 0) (j := 0) (id := z + 2 + 1 + 1 + 1) (len := n) (ob := ⟨77, 3, false, [[.vec (z + 2 + 1 + 1 + 1) n, .vec (z + 2 + 1 + 1 + 1 + 1) n, .v (.bool (exEmpty (.mk 1 s [])))]]⟩) (row := [.vec (z + 2 + 1 + 1 + 1) n, .vec (z + 2 + 1 + 1 + 1 + 1) n, .v (.bool (exEmpty (.mk 1 s [])))]) (ob2 := ⟨4, 1, true, rwB n (fun q => if q = labs.length then true else false)⟩)
   (by omega) (by simp only [List.getElem?_cons_succ, g1]; rfl) (show 0 < 3 by decide) rfl rfl (by simp only [List.getElem?_cons_succ, g1]; rfl) rfl (rwB_len _ _)) (by kernel_rfl) ?_
  simp only [List.set_cons_succ, s1, List.set_cons_zero]
  refine awp_turn (turn_frc (k := z + 2 + 1 + 1 + 1 + 2) (i := 0) (j := 1) (id := z + 2 + 1 + 1 + 1 + 1) (len := n) (ob := ⟨77, 3, false, [[.slc 1 (rwB n (fun q => if q = labs.length then true else false)) n, .vec (z + 2 + 1 + 1 + 1 + 1) n, .v (.bool (exEmpty (.mk 1 s [])))]]⟩) (row := [.slc 1 (rwB n (fun q => if q = labs.length then true else false)) n, .vec (z + 2 + 1 + 1 + 1 + 1) n, .v (.bool (exEmpty (.mk 1 s [])))]) (ob2 := ⟨4, 1, true, rwB n (fun q => if q = labs.length then true else false)⟩)
   (by omega) (by simp only [List.getElem?_cons_succ, g1]; rfl) (show 0 < 3 by decide) rfl rfl (by simp only [List.getElem?_cons_succ, g1]; rfl) rfl (rwB_len _ _)) (by kernel_rfl) ?_
  simp only [List.set_cons_succ, s1, List.set_cons_zero]
  repeat (first | (with_reducible first | refine Stp.up ?_ | refine fun (K : AK) hK => ?_ | refine wE ?_ | refine wK ?_ | refine wF ?_ | refine adrawG_k (by decide) ?_ | refine adrawG_e (by decide) ?_ | (refine hK _ ?_; clear hK K)) | simp only [go_sem, hIl, g0, g1, s0, s1, List.length_append] | with_reducible refine wA ?_ | clear hK K)
  have eF : fstB (.mk 1 s []) labs.length = fun q => if q = labs.length then true else false := by
   funext q
   rw [Bool.eq_iff_iff, fstB_iff]; simp [Fst]
  have eL : lstB (.mk 1 s []) labs.length = fun q => if q = labs.length then true else false := by
   funext q
   rw [Bool.eq_iff_iff, lstB_iff]; simp [Lst]
  have eO : inObs n (fun p q => f p q || folB (.mk 1 s []) labs.length p q) n = I := by
   rw [hI]
   refine inObs_eq fun p q _ _ => ?_
   have : folB (.mk 1 s []) labs.length p q = false := by rw [← Bool.not_eq_true, folB_iff]; simp [Fol]
   rw [this, Bool.or_false]
  have e1' : (labs ++ [s]).map encS = labs.map encS ++ [[.v (.string s)]] := by simp [encS]
  have e2 : labE (.mk 1 s []) = [s] := by simp [labE]
  have e3 : labs.length + [s].length = (labs ++ [s]).length := by simp
  have e4 : labs.length + 1 = (labs ++ [s]).length := by simp
  rw [eF, eL, eO, e2, e3, e4, ← e1', hI]
  exact afw_n (by rw [← inObs_len n f n, ← hI, hIl]; omega) (fun m => by simp only [AV.wf, wfL, wf_rwB, Bool.and_self])
end Go.Proofs.YtmdkgajjekbanaaDoor
