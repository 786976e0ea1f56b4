/- The statements' kit: Copy.., Pick: what is copied reads as before. -/
import Derived.Test.YtldnlbcibmmbbaaRLentQ
import Derived.Test.YtldnlbcibmmbbaaRVerts
import Derived.Test.YtldnlbcibmmbbaaRRef07b
import Derived.Test.YtldnlbcibmmbbaaROnceC
import Derived.Test.YtldnlbcibmmbbaaRAbsW
set_option linter.unusedSimpArgs false
set_option linter.unusedVariables false
namespace Go.Proofs.Ytldnlbcibmmbbaa
open Go.RowKit

def pickI (x n : Int) : Int := if n < 1 then 0 else if x.tmod n < 0 then x.tmod n + n else x.tmod n

end Go.Proofs.Ytldnlbcibmmbbaa

namespace Go.Proofs.Ytldnlbcibmmbbaa
open Go.RowKit

def qOps (q : Qry) : List Opd := q.conds.flatMap (fun c => [c.left, c.right]) ++ q.ret
def kindO (o : Opd) : Int := if o.kind == 1 then 2 else if o.kind == 3 then o.val.kind else 0

def nmStep (vs : List ByteArray) : Option (List ByteArray) → Pat → Option (List ByteArray)
 | none, _ => none
 | some ns, p => if noB p.name then some ns else if hasB ns p.name || hasB vs p.name then none else some (ns ++ [p.name])
def nmL (vs : List ByteArray) (ps : List Pat) : Option (List ByteArray) := ps.foldl (nmStep vs) (some [])

/-! ### a map whose keys are texts -/
def kmap (vs ns : List ByteArray) : List (ByteArray × Int) := vs.map (·, 1) ++ ns.map (·, 2)

def opKnown (vs ns : List ByteArray) (o : Opd) : Bool := if o.kind == 1 then hasB vs o.name else if o.kind == 2 then hasB ns o.name else true
def typeBad (c : Cnd) : Bool := kindO c.left != 0 && kindO c.right != 0 && kindO c.left != kindO c.right
def chkQ (q : Qry) : Int := if qryRight q then
  match nmL (onceL (vnames q.pats)) q.pats with
  | none => 9
  | some ns => if (qOps q).all (opKnown (onceL (vnames q.pats)) ns) then (if q.conds.any typeBad then 10 else 0) else 8
 else 2

theorem seqb_iff {s t : ByteArray} : seqb s t = true ↔ s = t := toList_inj
theorem hasB_iff {l : List ByteArray} {s : ByteArray} : hasB l s = true ↔ s ∈ l := by
 rw [hasB, List.any_eq_true]
 constructor
 ·rintro ⟨x, h1, h2⟩; rw [seqb_iff.1 h2]; exact h1
 ·intro h; exact ⟨s, h, seqb_iff.2 rfl⟩
def NoDb (l : List ByteArray) : Prop := ∀ k (h : k < l.length), hasB (l.take k) l[k] = false
end Go.Proofs.Ytldnlbcibmmbbaa

namespace Go.Proofs.Ytldnlbcibmmbbaa
open Go.RowKit

def renN (a b : List ByteArray) (s : ByteArray) : ByteArray := if idxB a s < 0 then s else b.getD (idxB a s).toNat ⟨#[]⟩
def mapO (f : ByteArray → ByteArray) (x : Opd) : Opd := if x.kind = 1 ∨ x.kind = 2 then { x with name := f x.name } else x
def mapP (f : ByteArray → ByteArray) (p : Pat) : Pat := { p with frm := f p.frm, to := f p.to, name := if noB p.name then p.name else f p.name }
def mapC (f : ByteArray → ByteArray) (c : Cnd) : Cnd := { c with left := mapO f c.left, right := mapO f c.right }
def mapQ (f : ByteArray → ByteArray) (q : Qry) : Qry := ⟨q.pats.map (mapP f), q.conds.map (mapC f), q.ret.map (mapO f), q.range, q.slide⟩
def renO (a b : List ByteArray) (x : Opd) : Opd := mapO (renN a b) x

theorem noB_iff {s : ByteArray} : noB s = true ↔ s = ⟨#[]⟩ := by
 unfold noB
 rw [decide_eq_true_eq]
 constructor
 ·intro h
  obtain ⟨a⟩ := s
  have : a.size = 0 := h
  rw [Array.eq_empty_of_size_eq_zero this]
 ·rintro rfl; rfl

/-! ### names that stay unlike -/
structure Inj (f : ByteArray → ByteArray) : Prop where
 inj : ∀ s t, f s = f t → s = t
 free : ∀ s, freeB (f s) = freeB s
 no : ∀ s, noB (f s) = noB s

/-! ### the order does not matter -/
def rot {α : Type} (k : Nat) (l : List α) : List α := l.drop k ++ l.take k
/-! ### where a name stands -/
theorem idxB_not {a : List ByteArray} {s : ByteArray} (h : s ∉ a) : idxB a s = -1 := by
 unfold idxB
 cases hf : a.findIdx? (fun x => seqb s x) with
 | none => rfl
 | some k =>
  obtain ⟨hk, h1, _⟩ := List.findIdx?_eq_some_iff_getElem.1 hf
  exact absurd (seqb_iff.1 h1 ▸ List.getElem_mem hk) h
theorem idxB_range (a : List ByteArray) (s : ByteArray) : idxB a s < a.length := by
 unfold idxB
 cases hf : a.findIdx? (fun x => seqb s x) with
 | none => show (-1 : Int) < _; omega
 | some k =>
  obtain ⟨hk, _⟩ := List.findIdx?_eq_some_iff_getElem.1 hf
  show (k : Int) < _; omega
theorem renN_not {a b : List ByteArray} {s : ByteArray} (h : s ∉ a) : renN a b s = s := by rw [renN, idxB_not h]; rfl

def perA : List ByteArray := [⟨#[97]⟩, ⟨#[98]⟩, ⟨#[99]⟩, ⟨#[100]⟩, ⟨#[101]⟩, ⟨#[102]⟩, ⟨#[103]⟩]
theorem toList_no (s : ByteArray) : noB s = (s.toList == (⟨#[]⟩ : ByteArray).toList) := by
 rw [Bool.eq_iff_iff, noB_iff, beq_iff_eq]
 exact ⟨fun h => by rw [h], fun h => toList_inj.1 (by simpa using h)⟩
end Go.Proofs.Ytldnlbcibmmbbaa

namespace Go.Proofs.Ytldnlbcibmmbbaa
open Go.RowKit

attribute [local go_sem] Oper.semAt_some

set_option maxRecDepth 100000 in
theorem clone_any (v : Value) (hv : v = .slice none 0 0 ∨ ∃ a c, v = .slice (some a) 0 c) (w : World) : Calls Try.prog 59 #[v] w fun e w' => (e = .returned (.slice none 0 0) ∨ ∃ a, e = .returned (.slice (some a) 0 0)) ∧ Below w.heap.size w w' := by
 rcases hv with rfl | ⟨a, c, rfl⟩
 ·go_enter Try.func59, Try.ntmps59
  go_wp2_with fail
  rw [(sl_nil (P := Try.prog) (w := w) (T := 41) (a := none) (n := 0) (c := 0) (by kernel_rfl)).1]
  go_wp2_with fail
  exact bodyPost_ret (v := .slice none 0 0) (by simp [results, Try.results59, go_sem]) rfl ⟨.inl rfl, Below.refl _ _⟩
 ·go_enter Try.func59, Try.ntmps59
  go_wp2_with fail
  rw [(sl_nil (P := Try.prog) (w := w) (T := 41) (a := some a) (n := 0) (c := c) (by kernel_rfl)).1]
  go_wp2_with fail
  exact bodyPost_ret (v := .slice (some ⟨w.heap.size, 0, none⟩) 0 0) (by simp [results, Try.results59, go_sem]) rfl ⟨.inr ⟨_, rfl⟩, (Below.refl _ _).alloc (Nat.le_refl _) _⟩

set_option maxRecDepth 100000 in
theorem named_c (a b : List ByteArray) (s : ByteArray) (hl : b.length = a.length) :
  Call1 Try.prog 27 [.v (.string s), .vp [strsA a], .vp [strsA b]] (.v (.string (renN a b s))) := by
 have C := index_c a s
 have hi := idxB_range a s
 simp only [strsA] at C ⊢
 rcases Int.lt_or_le (idxB a s) 0 with h | h
 ·have eR : renN a b s = s := by simp only [renN, if_pos h]
  have eB : decide (idxB a s ≥ 0) = false := by simp; omega
  rw [eR]
  (refine Call1.enter Try.func27 rfl (by kernel_rfl) (by kernel_rfl) rfl (by first | rfl | (simp only [go_sem, Bool.and_self, Bool.and_true, Bool.true_and])) (by first | rfl | (simp only [go_sem, Bool.and_self, Bool.and_true, Bool.true_and])) ?_; simp only [Try.ntmps27, Try.results27, List.length_cons, List.length_nil, Nat.reduceAdd, Nat.reduceSub, List.replicate_succ, List.replicate_zero, List.cons_append, List.nil_append])
  repeat' (first | (with_reducible first | refine Stp.up ?_ | refine fun (K : AK) hK => ?_ | (refine hK _ ?_; clear hK K)) | simp only [go_sem, eB] | with_reducible refine wA ?_ | clear hK K | (with_reducible refine ACallV.one (by assumption) ?_) | (with_reducible refine ACallS.one (by assumption) ?_) | (refine AIf.part (fun hb => ?_) (fun hb => ?_) <;> simp only [hb, go_sem, eB]) | (refine AIf.part (fun hb => ?_) (fun hb => ?_)) | (with_reducible refine ABoth.mk ?_ ?_))
 ·obtain ⟨k, hk⟩ : ∃ k : Nat, idxB a s = (k : Int) := ⟨(idxB a s).toNat, by omega⟩
  rw [hk] at C hi h
  have hkl : k < b.length := by omega
  have eG := getD_map encS b k [] hkl
  simp only [encS] at eG
  have eR : renN a b s = b[k] := by simp only [renN, hk]; rw [if_neg (by omega), Int.toNat_natCast]; simp [List.getD, hkl]
  rw [eR]
  have eB : decide ((k : Int) ≥ 0) = true := by simp
  (refine Call1.enter Try.func27 rfl (by kernel_rfl) (by kernel_rfl) rfl (by first | rfl | (simp only [go_sem, Bool.and_self, Bool.and_true, Bool.true_and])) (by first | rfl | (simp only [go_sem, Bool.and_self, Bool.and_true, Bool.true_and])) ?_; simp only [Try.ntmps27, Try.results27, List.length_cons, List.length_nil, Nat.reduceAdd, Nat.reduceSub, List.replicate_succ, List.replicate_zero, List.cons_append, List.nil_append])
  repeat' (first | (with_reducible first | refine Stp.up ?_ | refine fun (K : AK) hK => ?_ | (refine hK _ ?_; clear hK K)) | simp only [go_sem, eB, eG] | with_reducible refine wA ?_ | clear hK K | (with_reducible refine ACallV.one (by assumption) ?_) | (with_reducible refine ACallS.one (by assumption) ?_) | (refine AIf.part (fun hb => ?_) (fun hb => ?_) <;> simp only [hb, go_sem, eB, eG]) | (refine AIf.part (fun hb => ?_) (fun hb => ?_)) | (with_reducible refine ABoth.mk ?_ ?_))

def renV (a b : List ByteArray) : AV := .fn 27 [] [.vp [strsA a], .vp [strsA b]]
set_option maxRecDepth 100000 in
theorem operandT_c (a b : List ByteArray) (x : Opd) (hl : b.length = a.length) :
  Call1 Try.prog 29 [.agg (encO x), .vp [renV a b]] (.agg (encO (renO a b x))) := by
 have C := named_c a b x.name hl
 obtain ⟨kd, nm, ky, vl⟩ := x
 have e1 : kd = 1 ∨ kd = 2 → renO a b ⟨kd, nm, ky, vl⟩ = ⟨kd, renN a b nm, ky, vl⟩ := fun h => by simp [renO, mapO, h]
 have e2 : ¬ (kd = 1 ∨ kd = 2) → renO a b ⟨kd, nm, ky, vl⟩ = ⟨kd, nm, ky, vl⟩ := fun h => by simp only [renO, mapO]; rw [if_neg h]
 simp only [renV, strsA, encO] at C ⊢
 generalize renO a b ⟨kd, nm, ky, vl⟩ = y at e1 e2 ⊢
 (refine Call1.enter Try.func29 rfl (by kernel_rfl) (by kernel_rfl) rfl (by first | rfl | (simp only [go_sem, Bool.and_self, Bool.and_true, Bool.true_and])) (by first | rfl | (simp only [go_sem, Bool.and_self, Bool.and_true, Bool.true_and])) ?_; simp only [Try.ntmps29, Try.results29, List.length_cons, List.length_nil, Nat.reduceAdd, Nat.reduceSub, List.replicate_succ, List.replicate_zero, List.cons_append, List.nil_append])
 repeat' (first | (with_reducible first | refine Stp.up ?_ | refine fun (K : AK) hK => ?_ | (refine hK _ ?_; clear hK K)) | simp only [go_sem] | clear hK K | (with_reducible refine ACallV.one (by assumption) ?_) | (with_reducible refine ACallS.one (by assumption) ?_) | (refine AIf.part (fun hb => ?_) (fun hb => ?_) <;> simp only [hb, go_sem]) | (refine AIf.part (fun hb => ?_) (fun hb => ?_)) | (with_reducible refine ABoth.mk ?_ ?_))
 ·rw [e1 (.inl (by simpa using hb))]; (refine AFz.of 40 rfl ?_; simp only [go_sem])
 ·rw [e1 (.inr (by simpa using hb))]; (refine AFz.of 40 rfl ?_; simp only [go_sem])
 ·rename_i hb1
  rw [e2 (by simp at hb hb1; simp [hb, hb1])]; (refine AFz.of 40 rfl ?_; simp only [go_sem])
end Go.Proofs.Ytldnlbcibmmbbaa

namespace Go.Proofs.Ytldnlbcibmmbbaa
open Go.RowKit

theorem take_all {α : Type} {l : List α} {n : Nat} (h : l.length = n) : l.take n = l := List.take_of_length_le (by omega)

def mixL {α β : Type} (f g : α → β) (l : List α) (i : Nat) : List β := (l.take i).map f ++ (l.drop i).map g
theorem mixL_len {α β : Type} (f g : α → β) (l : List α) (i : Nat) : (mixL f g l i).length = l.length := by simp [mixL]; omega
theorem mixL_0 {α β : Type} (f g : α → β) (l : List α) : mixL f g l 0 = l.map g := by simp [mixL]
theorem mixL_all {α β : Type} (f g : α → β) (l : List α) : mixL f g l l.length = l.map f := by simp [mixL]
theorem mixL_get {α β : Type} (f g : α → β) (l : List α) (i : Nat) (h : i < l.length) (d : β) : (mixL f g l i).getD i d = g l[i] := by
 rw [List.getD_eq_getElem?_getD, mixL, List.getElem?_append_right (by simp; omega)]
 simp only [List.length_map, List.length_take, Nat.min_eq_left (Nat.le_of_lt h), Nat.sub_self, List.getElem?_map, List.getElem?_drop, Nat.add_zero, List.getElem?_eq_getElem h]
 rfl
theorem mixL_set {α β : Type} (f g : α → β) (l : List α) (i : Nat) (h : i < l.length) : (mixL f g l i).set i (f l[i]) = mixL f g l (i + 1) := by
 rw [mixL, List.set_append_right _ _ (by simp; omega), mixL, List.take_succ_eq_append_getElem h, List.map_append, List.append_assoc]
 congr 1
 simp only [List.length_map, List.length_take, Nat.min_eq_left (Nat.le_of_lt h), Nat.sub_self]
 rw [List.drop_eq_getElem_cons h]
 rfl
theorem mixL_wf {α : Type} {f g : α → List AV} {l : List α} {i n : Nat} (hf : wfR n (l.map f) = true) (hg : wfR n (l.map g) = true) : wfR n (mixL f g l i) = true := by
 have key : ∀ (l : List (List AV)), (∀ x, x ∈ l → wfL n x = true) → wfR n l = true := fun l => by
  induction l with
  | nil => intro _; rfl
  | cons x l ih => intro h; simp only [wfR, Bool.and_eq_true]; exact ⟨h x List.mem_cons_self, ih (fun y hy => h y (List.mem_cons_of_mem _ hy))⟩
 refine key _ (fun x hx => ?_)
 rcases List.mem_append.1 hx with hx | hx
 ·obtain ⟨y, hy, rfl⟩ := List.mem_map.1 hx
  obtain ⟨k, hk⟩ := List.getElem?_of_mem (List.mem_map_of_mem (f := f) (List.mem_of_mem_take hy))
  exact wfR_get hf hk
 ·obtain ⟨y, hy, rfl⟩ := List.mem_map.1 hx
  obtain ⟨k, hk⟩ := List.getElem?_of_mem (List.mem_map_of_mem (f := g) (List.mem_of_mem_drop hy))
  exact wfR_get hg hk
def patR (a b : List ByteArray) (ps : List Pat) (i : Nat) : List (List AV) := mixL (fun p => encP (mapP (renN a b) p)) encP ps i
def cndR (a b : List ByteArray) (cs : List Cnd) (i : Nat) : List (List AV) := mixL (fun c => encC (mapC (renN a b) c)) encC cs i
theorem cndR_wf (a b : List ByteArray) (cs : List Cnd) (i n : Nat) : wfR n (cndR a b cs i) = true := mixL_wf (by have := wf_encC n (cs.map (mapC (renN a b))); rw [List.map_map] at this; exact this) (wf_encC n cs)
theorem cndR_all (a b : List ByteArray) (cs : List Cnd) : cndR a b cs cs.length = (cs.map (mapC (renN a b))).map encC := by rw [cndR, mixL_all, List.map_map]; rfl
theorem getD_set_self {α : Type} {l : List α} {i : Nat} (h : i < l.length) (x d : α) : (l.set i x).getD i d = x := by
 rw [List.getD_eq_getElem?_getD, List.getElem?_set_self h]; rfl

end Go.Proofs.Ytldnlbcibmmbbaa
