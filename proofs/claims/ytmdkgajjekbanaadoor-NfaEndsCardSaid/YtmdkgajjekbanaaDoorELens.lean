/- The statements' kit: what is lent, a query: the walks. Printed by gen_lent.py. -/
import Derived.Test.YtmdkgajjekbanaaDoorELent
import Derived.Test.YtmdkgajjekbanaaDoorEBehP
import Derived.Shelf.Sort.Plain
import Derived.Shelf.Slices.CompactI
import Derived.Shelf.Slices.In.SortNone
import Derived.Shelf.Spec.SlicesGrow
import Derived.Test.YtmdkgajjekbanaaDoorEAbsW
set_option linter.unusedSimpArgs false
set_option linter.unusedVariables false
namespace Go.Proofs.YtmdkgajjekbanaaDoor
open Go.RowKit

def markP (i : Nat) : List AV := [.v (.string ⟨#[]⟩), .v (.string ⟨#[]⟩), .v (.bool false), .v (.string ⟨#[109]⟩), .v (.string ⟨#[]⟩), mk1 i, .v (.string ⟨#[]⟩), .v (.slice none 0 0)]
def markC (i : Nat) : List AV := [mk1 i, .v (.int .i64 0), .v (.string ⟨#[]⟩), .v (.string ⟨#[]⟩), .v (.int .i64 0), .v (.int .i64 0), .v (.string ⟨#[]⟩), .v (.int .i64 0), .v (.string ⟨#[]⟩), .v (.string ⟨#[]⟩), .v (.int .i64 0), .v (.int .i64 0), .v (.string ⟨#[]⟩)]
def markO (i : Nat) : List AV := [.v (.int .i64 0), .v (.string ⟨#[]⟩), .v (.string ⟨#[]⟩), .v (.int .i64 0), mk1 i, .v (.string ⟨#[]⟩)]
def lentP (p : Pat) : List AV := [.v (.string p.frm), .v (.string p.to), .v (.bool p.path), .v (.string p.label), .v (.string p.name), .v (.int .i64 p.expr.kind), .v (.string p.expr.label), .slc 3 (p.expr.kids.map lentE ++ marksOf markE) p.expr.kids.length]
theorem wf_lentP1 (n : Nat) (p : Pat) : wfL n (lentP p) = true := by simp only [lentP, wfL, AV.wf, wfR_app, wf_lentE, wf_marksE, Bool.and_true, Bool.and_self]
@[go_sem] theorem wf_lentP (n : Nat) (l : List Pat) : wfR n (l.map lentP) = true := wfR_map _ (wf_lentP1 n) l
@[go_sem] theorem wf_mksP (n k : Nat) : wfR n (mksN markP k) = true := wf_mksN n _ (fun _ => rfl) k
@[go_sem] theorem wf_marksP (n : Nat) : wfR n (marksOf markP) = true := wf_mksN n _ (fun _ => rfl) 12
@[go_sem] theorem wf_mksC (n k : Nat) : wfR n (mksN markC k) = true := wf_mksN n _ (fun _ => rfl) k
@[go_sem] theorem wf_marksC (n : Nat) : wfR n (marksOf markC) = true := wf_mksN n _ (fun _ => rfl) 12
@[go_sem] theorem wf_mksO (n k : Nat) : wfR n (mksN markO k) = true := wf_mksN n _ (fun _ => rfl) k
@[go_sem] theorem wf_marksO (n : Nat) : wfR n (marksOf markO) = true := wf_mksN n _ (fun _ => rfl) 12

theorem wrap12 {n : Nat} (h : n ≤ 1000000) : IntKind.i64.wrap ((n : Int) + 12) = ((n + 12 : Nat) : Int) := by rw [wrap_id (by omega) (by omega)]; omega

def Qry.lens (n : Nat) (q : Qry) : Prop := q.pats.length ≤ n ∧ q.conds.length ≤ n ∧ q.ret.length ≤ n ∧ ∀ p, p ∈ q.pats → p.expr.lens n

end Go.Proofs.YtmdkgajjekbanaaDoor

namespace Go.Proofs.YtmdkgajjekbanaaDoor
open Go.RowKit

inductive Le : AV → AV → Prop
 | refl (a : AV) : Le a a
 | nil (z : Nat) : Le (.v (.slice none 0 0)) (.slc z [] 0)
 | agg (cs ds : List AV) : cs.length = ds.length → (∀ (i : Nat) c d, cs[i]? = some c → ds[i]? = some d → Le c d) → Le (.agg cs) (.agg ds)
 | slc (z : Nat) (rows rows' : List (List AV)) (len : Nat) : len ≤ rows'.length → rows'.length ≤ rows.length → (∀ (i : Nat) r r', rows[i]? = some r → rows'[i]? = some r' → r.length = r'.length) →
   (∀ (i j : Nat) r r' c c', rows[i]? = some r → rows'[i]? = some r' → r[j]? = some c → r'[j]? = some c' → Le c c') → Le (.slc z rows len) (.slc z rows' len)

section
variable {D : Nat → Prop} {nu : Nat → Nat → Value} {o : List (Option AObj)} {w : World} {P : Program}
theorem RA.le {a b : AV} (h : Le a b) : ∀ {x : Value}, RA D nu o w a x → RA D nu o w b x := by
 induction h with
 | refl a => exact fun h => h
 | nil z => intro x h; obtain rfl := h.v_eq; exact .slcNil z
 | agg cs ds hl _ ih =>
  intro x h
  cases h with
  | agg _ xs h1 h2 h3 =>
   refine .agg ds xs (by omega) (fun i d y hd hy => ?_) h3
   have hi : i < cs.length := by have := (List.getElem?_eq_some_iff.1 hd).1; omega
   exact ih i cs[i] d (List.getElem?_eq_getElem hi) hd (h2 i _ y (List.getElem?_eq_getElem hi) hy)
 | slc z rows rows' len h1 h2 h3 _ ih =>
  intro x h
  have up : ∀ (i : Nat) r', rows'[i]? = some r' → ∃ r, rows[i]? = some r := fun i r' hr => ⟨_, List.getElem?_eq_getElem (by have := (List.getElem?_eq_some_iff.1 hr).1; omega)⟩
  have upj : ∀ (i j : Nat) r' c', rows'[i]? = some r' → r'[j]? = some c' → ∃ r c, rows[i]? = some r ∧ r[j]? = some c := fun i j r' c' hr hc => by
   obtain ⟨r, hr'⟩ := up i r' hr
   exact ⟨r, _, hr', List.getElem?_eq_getElem (by have := h3 i r r' hr' hr; have := (List.getElem?_eq_some_iff.1 hc).1; omega)⟩
  cases h with
  | slcNil =>
   have : rows' = [] := List.eq_nil_of_length_eq_zero (by simpa using h2)
   subst this; exact .slcNil z
  | slcOdd _ a =>
   have : rows' = [] := List.eq_nil_of_length_eq_zero (by simpa using h2)
   subst this; exact .slcOdd z a
  | slc _ _ _ b off cap f k1 k2 k3 k4 k5 k6 k7 k8 =>
   refine .slc z rows' len b off cap f h1 (by omega) k3 (fun hne => k4 (fun e => hne (by subst e; exact List.eq_nil_of_length_eq_zero (by simpa using h2)))) (fun i r' hr => ?_) (fun i j r' c' hr hc => ?_) (fun i j r' c' hr hc => ?_) (fun i j r' c' hr hc => ?_)
   ·obtain ⟨r, hr'⟩ := up i r' hr
    rw [← h3 i r r' hr' hr]; exact k5 i r hr'
   ·obtain ⟨r, c, q1, q2⟩ := upj i j r' c' hr hc
    exact k6 i j r c q1 q2
   ·obtain ⟨r, c, q1, q2⟩ := upj i j r' c' hr hc
    exact ih i j r r' c c' q1 hr q2 hc (k7 i j r c q1 q2)
   ·obtain ⟨r, c, q1, q2⟩ := upj i j r' c' hr hc
    exact k8 i j r c q1 q2
def LeL (cs ds : List AV) : Prop := cs.length = ds.length ∧ ∀ (i : Nat) c d, cs[i]? = some c → ds[i]? = some d → Le c d
theorem LeL.nil : LeL [] [] := ⟨rfl, fun i c d h => by simp at h⟩
theorem LeL.cons {c d : AV} {cs ds : List AV} (h : Le c d) (k : LeL cs ds) : LeL (c :: cs) (d :: ds) := ⟨by simp [k.1], fun i x y hx hy => by
 cases i with
 | zero => cases hx; cases hy; exact h
 | succ i => exact k.2 i x y hx hy⟩
theorem LeL.refl (cs : List AV) : LeL cs cs := ⟨rfl, fun i c d h k => by rw [h] at k; cases k; exact .refl c⟩
theorem LeL.agg {cs ds : List AV} (h : LeL cs ds) : Le (.agg cs) (.agg ds) := .agg cs ds h.1 h.2
theorem Le.rows {α : Type} {z : Nat} {f g : α → List AV} {xs : List α} {more : List (List AV)} (h : ∀ x, x ∈ xs → LeL (f x) (g x)) : Le (.slc z (xs.map f ++ more) xs.length) (.slc z (xs.map g) xs.length) := by
 have key : ∀ (i : Nat) r r', (xs.map f ++ more)[i]? = some r → (xs.map g)[i]? = some r' → LeL r r' := fun i r r' h1 h2 => by
  have hi : i < xs.length := by simpa using (List.getElem?_eq_some_iff.1 h2).1
  rw [List.getElem?_append_left (by simpa using hi)] at h1
  rw [List.getElem?_map, List.getElem?_eq_getElem hi] at h1 h2
  cases h1; cases h2
  exact h _ (List.getElem_mem hi)
 exact .slc z _ _ _ (by simp) (by simp) (fun i r r' h1 h2 => (key i r r' h1 h2).1) (fun i j r r' c c' h1 h2 h3 h4 => (key i r r' h1 h2).2 j c c' h3 h4)
theorem RAs.le {cs ds : List AV} {xs : Array Value} (h : LeL cs ds) (k : RAs D nu o w cs xs) : RAs D nu o w ds xs := ⟨by rw [← h.1]; exact k.len, fun i d x hd hx => by
 have hi : i < cs.length := by have := (List.getElem?_eq_some_iff.1 hd).1; have := h.1; omega
 exact (k.at' i cs[i] x (List.getElem?_eq_getElem hi) hx).le (h.2 i _ d (List.getElem?_eq_getElem hi) hd)⟩
theorem Call1.le {f : FuncId} {args args' : List AV} {r : AV} (h : Call1 P f args r) (hw : wfL 0 args' = true) (hl : LeL args' args) : Call1 P f args' r := h.args hw (fun _ _ _ _ k => k.le hl)
end

theorem le_lentE (x : Ex) : LeL (lentE x) (encE x) := by
 induction x using Ex.ind with
 | h k s l ih =>
  rw [lentE_eq, encE_eq]
  exact .cons (.refl _) (.cons (.refl _) (.cons (.rows ih) .nil))
theorem le_markE (i : Nat) : LeL (markE i) (encE (.mk ((8000024 + i : Nat) : Int) ⟨#[]⟩ [])) := by
 rw [encE_eq]
 exact .cons (.refl _) (.cons (.refl _) (.cons (.nil 3) .nil))
end Go.Proofs.YtmdkgajjekbanaaDoor

namespace Go.Proofs.YtmdkgajjekbanaaDoor
open Go.RowKit

section
variable {P : Program}
end
end Go.Proofs.YtmdkgajjekbanaaDoor

namespace Go.Proofs.YtmdkgajjekbanaaDoor
open Go.RowKit

def sortRen : Go.Shelf.Ren := ⟨fun | 189 => 89 | 125 => 98 | 257 => 97 | 128 => 110 | 129 => 111 | 294 => 101 | 295 => 102 | 296 => 103 | 297 => 104 | 298 => 105 | 299 => 106 | 216 => 107 | 300 => 108 | 301 => 109 | 328 => 112 | 329 => 113 | 330 => 114 | 331 => 115 | 332 => 116 | 215 => 117 | 343 => 118 | n => n, fun | 28 => 37 | 3 => 3 | 46 => 100 | 0 => 0 | 51 => 68 | 53 => 134 | 4 => 4 | 183 => 126 | 182 => 125 | 131 => 131 | 5 => 5 | 9 => 9 | 218 => 135 | 222 => 139 | 228 => 141 | 229 => 142 | n => n, fun n => n⟩
def cmptRen : Go.Shelf.Ren := ⟨fun | 20 => 90 | n => n, fun | 22 => 37 | 3 => 3 | 4 => 4 | 0 => 0 | n => n, fun n => n⟩
end Go.Proofs.YtmdkgajjekbanaaDoor

namespace Go.Proofs.YtmdkgajjekbanaaDoor
open Go.RowKit

theorem wf_encNN (b : Nat) (l : List Nat) : wfR b (encN l) = true := wfR_map _ (fun _ => rfl) _
attribute [go_sem] wf_encNN
def growRen : Go.Shelf.Ren := ⟨fun | 4 => 88 | n => n, fun | 22 => 86 | 25 => 3 | 3 => 3 | 4 => 4 | 9 => 9 | 20 => 20 | 0 => 0 | n => n, fun n => n⟩
end Go.Proofs.YtmdkgajjekbanaaDoor

namespace Go.Proofs.YtmdkgajjekbanaaDoor
open Go.RowKit

def BehC (w : List ByteArray) (x : Ex) : Prop := ∀ fr : List Nat, fr.Pairwise (· < ·) → (∀ j, j ∈ fr → j ≤ w.length) → Call1 Tryd.prog 58 [.agg [strsA w], .agg (encE x), .slc 1 (encN fr) fr.length] (.slc 1 (encN (bh w (Lg x) fr)) (bh w (Lg x) fr).length)
inductive Fit9 : Ex → Prop
 | lab (s : ByteArray) : Fit9 (.mk 1 s [])
 | many (k : Int) (s : ByteArray) (l : List Ex) : (k = 2 ∨ k = 3) → l.length ≤ 900 → (∀ x ∈ l, Fit9 x) → Fit9 (.mk k s l)
 | one (k : Int) (s : ByteArray) (x : Ex) : (k = 4 ∨ k = 5 ∨ k = 6) → Fit9 x → Fit9 (.mk k s [x])
end Go.Proofs.YtmdkgajjekbanaaDoor

namespace Go.Proofs.YtmdkgajjekbanaaDoor
open Go.RowKit

theorem flat_take_succ {α β : Type} (f : α → List β) (l : List α) (k : Nat) (h : k < l.length) : ((l.take (k + 1)).flatMap f).length = ((l.take k).flatMap f).length + (f l[k]).length := by
 rw [List.take_add_one, List.flatMap_append, List.length_append, List.getElem?_eq_getElem h]; simp only [Option.toList_some, List.flatMap_cons, List.flatMap_nil, List.append_nil]
theorem flat_take_le {α β : Type} (f : α → List β) (l : List α) (k : Nat) : ((l.take k).flatMap f).length ≤ (l.flatMap f).length := by
 conv => rhs; rw [← List.take_append_drop k l, List.flatMap_append, List.length_append]
 omega
theorem flat_mem_le {α β : Type} (f : α → List β) : ∀ (l : List α) (x : α), x ∈ l → (f x).length ≤ (l.flatMap f).length
 | y :: l, x, h => by
  rw [List.flatMap_cons, List.length_append]
  rcases List.mem_cons.1 h with rfl | h
  ·omega
  ·have := flat_mem_le f l x h; omega
theorem exParts_kids (k : Int) (s : ByteArray) (l : List Ex) : (exParts (.mk k s l)).length = 1 + (l.flatMap exParts).length := by
 rw [exParts, exsParts_eq, List.length_cons]; omega
theorem exParts_pos (x : Ex) : 1 ≤ (exParts x).length := by
 obtain ⟨k, s, l⟩ := x; rw [exParts_kids]; omega
theorem flat_len (l : List Ex) : l.length ≤ (l.flatMap exParts).length := by
 induction l with
 | nil => simp
 | cons x l ih => rw [List.flatMap_cons, List.length_append, List.length_cons]; have := exParts_pos x; omega

set_option maxRecDepth 100000 in
set_option maxHeartbeats 4000000 in
theorem size07_c (x : Ex) (hx : (exParts x).length ≤ 1000000) : Call1 Tryd.prog 65 [.agg (encE x)] (.v (.int .i64 ((exParts x).length : Nat))) := by
 induction x using Ex.ind with
 | h kd s l ih =>
  rw [exParts_kids] at hx ⊢
  have hl := flat_len l
  rw [encE_eq]
  simp only [Ex.kind, Ex.label, Ex.kids]
  (refine Call1.enter Tryd.func65 rfl (by kernel_rfl) (by kernel_rfl) rfl (by first | rfl | (simp only [go_sem, Bool.and_self, Bool.and_true, Bool.true_and])) (by first | rfl | (simp only [go_sem, Bool.and_self, Bool.and_true, Bool.true_and])) ?_; simp only [Tryd.ntmps65, Tryd.results65, List.length_cons, List.length_nil, Nat.reduceAdd, Nat.reduceSub, List.replicate_succ, List.replicate_zero, List.cons_append, List.nil_append])
  repeat (first | (with_reducible first | refine Stp.up ?_ | refine fun (K : AK) hK => ?_ | (refine hK _ ?_; clear hK K)) | simp only [go_sem] | with_reducible refine wA ?_ | clear hK K)
  refine awp_loopF (ι := Nat) (fun k => [(1, .ptr 0 0 3 0 0), (2, .v (.int .i64 0)), (3, .v (.int .i64 (1 + ((l.take k).flatMap exParts).length : Nat))), (4, .v (.int .i64 k))]) (fun _ => [some ⟨25, 3, false, [[.v (.int .i64 kd), .v (.string s), .slc 3 (l.map encE) l.length]]⟩]) (fun k => l.length - k) (fun k => k ≤ l.length) 0 (by omega) ?_ ?_
  ·(refine wk_mk ?_ ?_ ?_ <;> simp only [frm, List.foldl_cons, List.foldl_nil, List.replicate_succ, List.replicate_zero, WkT, WkO, AV.v.injEq, Value.int.injEq, Value.bool.injEq, Value.string.injEq, AV.vec.injEq, AV.ptr.injEq, true_or, or_true, false_or, or_false, AObj.mk.injEq, forall_eq_apply_imp_iff, forall_eq, forall_eq', go_sem])
   exact ⟨rfl, rfl⟩
  ·intro k hk K hK
   simp only [frm, List.foldl_cons, List.foldl_nil, List.replicate_succ, List.replicate_zero, go_sem]
   repeat (first | (with_reducible first | refine Stp.up ?_ | refine fun (K : AK) hK => ?_ | (refine hK _ ?_; clear hK K)) | simp only [go_sem] | with_reducible refine wA ?_ | clear hK K)
   refine AIf.part (fun h => ?_) (fun h => ?_)
   ·have hlt : k < l.length := by (try simp only [bne_iff_ne, ne_eq, bne_eq_false_iff_eq, beq_iff_eq, beq_eq_false_iff_ne, decide_eq_true_eq, decide_eq_false_iff_not, Bool.not_eq_eq_eq_not, Int.natCast_inj, Int.ofNat_lt, Int.ofNat_le] at h); omega
    have eW := wrap_succ (k := k) (by omega)
    have eG := getD_map encE l k [] hlt
    have h1 := flat_take_succ exParts l k hlt
    have h2 := flat_take_le exParts l (k + 1)
    have h3 := flat_mem_le exParts l l[k] (List.getElem_mem hlt)
    have C := ih l[k] (List.getElem_mem hlt) (by omega)
    have eN : IntKind.i64.wrap (((1 + ((l.take k).flatMap exParts).length : Nat) : Int) + (((exParts l[k]).length : Nat) : Int)) = ((1 + ((l.take (k + 1)).flatMap exParts).length : Nat) : Int) := by
     rw [wrap_id (by omega) (by omega)]; omega
    simp only [encE_eq] at C eG
    repeat (first | (with_reducible first | refine Stp.up ?_ | refine fun (K : AK) hK => ?_ | (refine hK _ ?_; clear hK K)) | simp only [go_sem, eG] | with_reducible refine wA ?_ | clear hK K)
    refine ACallV.one C ?_
    repeat (first | (with_reducible first | refine Stp.up ?_ | refine fun (K : AK) hK => ?_ | (refine hK _ ?_; clear hK K)) | simp only [go_sem, eW, eN] | with_reducible refine wA ?_ | clear hK K)
    exact LNext.mk (k + 1) (by omega) (by omega) (by (refine wk_mk ?_ ?_ ?_ <;> simp only [frm, List.foldl_cons, List.foldl_nil, List.replicate_succ, List.replicate_zero, WkT, WkO, AV.v.injEq, Value.int.injEq, Value.bool.injEq, Value.string.injEq, AV.vec.injEq, AV.ptr.injEq, true_or, or_true, false_or, or_false, AObj.mk.injEq, forall_eq_apply_imp_iff, forall_eq, forall_eq', go_sem]))
   ·have he : k = l.length := by (try simp only [bne_iff_ne, ne_eq, bne_eq_false_iff_eq, beq_iff_eq, beq_eq_false_iff_ne, decide_eq_true_eq, decide_eq_false_iff_not, Bool.not_eq_eq_eq_not, Int.natCast_inj, Int.ofNat_lt, Int.ofNat_le] at h); omega
    have eA : l.take k = l := by rw [he, List.take_length]
    repeat (first | (with_reducible first | refine Stp.up ?_ | refine fun (K : AK) hK => ?_ | (refine hK _ ?_; clear hK K)) | simp only [go_sem, eA] | with_reducible refine wA ?_ | clear hK K)

end Go.Proofs.YtmdkgajjekbanaaDoor

namespace Go.Proofs.YtmdkgajjekbanaaDoor
open Go.RowKit

theorem parts_sub (x : Ex) : ∀ y, y ∈ exParts x → (exParts y).length ≤ (exParts x).length := by
 induction x using Ex.ind with
 | h k s l ih =>
  intro y hy
  rw [exParts, exsParts_eq] at hy
  rcases List.mem_cons.1 hy with rfl | hy
  ·exact Nat.le_refl _
  ·obtain ⟨z, hz, hy⟩ := List.mem_flatMap.1 hy
   have h1 := ih z hz y hy
   have h2 := flat_mem_le exParts l z hz
   rw [exParts_kids]; omega
theorem kids_le (x : Ex) : x.kids.length ≤ (exParts x).length := by
 obtain ⟨k, s, l⟩ := x
 rw [exParts_kids]
 have := flat_len l
 simp only [Ex.kids]; omega
theorem ex_lens {x : Ex} {n : Nat} (h : (exParts x).length ≤ n) : x.lens n := fun y hy => by
 have h1 := parts_sub x y hy
 have h2 := kids_le y
 omega
theorem part_ok (x : Ex) : x.ok → ∀ y, y ∈ exParts x → okT y.label := by
 induction x using Ex.ind with
 | h k s l ih =>
  intro h y hy
  rw [Ex.ok] at h
  rw [exParts, exsParts_eq] at hy
  rcases List.mem_cons.1 hy with rfl | hy
  ·exact h.1
  ·obtain ⟨z, hz, hy⟩ := List.mem_flatMap.1 hy
   exact ih z hz (exsOk_iff.1 h.2 z hz) y hy

end Go.Proofs.YtmdkgajjekbanaaDoor
