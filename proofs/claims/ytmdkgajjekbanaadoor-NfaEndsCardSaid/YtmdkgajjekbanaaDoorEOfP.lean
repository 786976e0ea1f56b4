/- A call that is given the first objects of its caller's; an own row in a cell of an own object, told as one that stays. -/
import Derived.Test.YtmdkgajjekbanaaDoorEOnceC
import Derived.Test.YtmdkgajjekbanaaDoorERef02
import Derived.Test.YtmdkgajjekbanaaDoorELang
set_option linter.unusedSimpArgs false
set_option linter.unusedVariables false
namespace Go.Proofs.YtmdkgajjekbanaaDoor
open Go.RowKit

mutual
theorem ren_lt {f : Nat → Nat} {m : Nat} (hf : ∀ k, k < m → f k = k) : ∀ a : AV, a.wf m = true → a.ren f = a
 | .undef, _ => rfl
 | .v _, _ => rfl
 | .agg cs, h => by rw [AV.ren, renL_lt hf cs h]
 | .tup cs, h => by rw [AV.ren, renL_lt hf cs h]
 | .slc z rows len, h => by rw [AV.ren, renR_lt hf rows h]
 | .vp cs, h => by rw [AV.ren, renL_lt hf cs h]
 | .ptr id _ _ _ _, h => by simp [AV.wf] at h; rw [AV.ren, hf id h]
 | .vec id _, h => by simp [AV.wf] at h; rw [AV.ren, hf id h]
 | .fn g a b, h => by
  simp only [AV.wf, Bool.and_eq_true] at h
  rw [AV.ren, renL_lt hf a h.1, renL_lt hf b h.2]
 | .full a, h => by rw [AV.ren, ren_lt hf a h]
theorem renL_lt {f : Nat → Nat} {m : Nat} (hf : ∀ k, k < m → f k = k) : ∀ l : List AV, wfL m l = true → renL f l = l
 | [], _ => rfl
 | a :: l, h => by
  simp only [wfL, Bool.and_eq_true] at h
  rw [renL, ren_lt hf a h.1, renL_lt hf l h.2]
theorem renR_lt {f : Nat → Nat} {m : Nat} (hf : ∀ k, k < m → f k = k) : ∀ l : List (List AV), wfR m l = true → renR f l = l
 | [], _ => rfl
 | a :: l, h => by
  simp only [wfR, Bool.and_eq_true] at h
  rw [renR, renL_lt hf a h.1, renR_lt hf l h.2]
end
theorem obs_id {f : Nat → Nat} {m : Nat} (hf : ∀ k, k < m → f k = k) : ∀ l : List (Option AObj), (∀ ob, some ob ∈ l → wfR m ob.rows = true) → l.map (Option.map (AObj.ren f)) = l
 | [], _ => rfl
 | none :: l, h => by rw [List.map_cons, obs_id hf l (fun ob hb => h ob (List.mem_cons_of_mem _ hb))]; rfl
 | some ob :: l, h => by
  rw [List.map_cons, obs_id hf l (fun ob hb => h ob (List.mem_cons_of_mem _ hb)), Option.map_some, AObj.ren, renR_lt hf _ (h ob List.mem_cons_self)]
theorem putO_pre (f : Nat → Nat) : ∀ (l X pre post : List (Option AObj)), l.length = X.length → putO f (List.range' pre.length l.length) l (pre ++ X ++ post) = pre ++ l.map (Option.map (AObj.ren f)) ++ post
 | [], [], pre, post, _ => by simp [putO]
 | [], _ :: _, _, _, h => by simp at h
 | _ :: _, [], _, _, h => by simp at h
 | a :: l, b :: X, pre, post, h => by
  rw [List.length_cons, List.range'_succ, putO]
  have e1 : (pre ++ b :: X ++ post).set pre.length (a.map (AObj.ren f)) = (pre ++ [a.map (AObj.ren f)]) ++ X ++ post := by
   rw [List.append_assoc, List.set_append_right _ _ (Nat.le_refl _), Nat.sub_self, List.cons_append, List.set_cons_zero]; simp
  rw [e1]
  have := putO_pre f l X (pre ++ [a.map (AObj.ren f)]) post (by simpa using h)
  rw [List.length_append, List.length_singleton] at this
  rw [this]; simp
theorem ACallV.sub {P : Program} {f : FuncId} {args : List AV} {o0 o1 post : List (Option AObj)} {r0 : AV} {K : AV → List (Option AObj) → Prop} (h : CallE P f args o0 r0 o1) (hl : o1.length = o0.length)
  (hwa : wfL o0.length args = true) (hw0 : ∀ ob, some ob ∈ o0 → wfR o0.length ob.rows = true) (hw1 : ∀ ob, some ob ∈ o1 → wfR o0.length ob.rows = true) (hr : r0.wf o0.length = true) (k : K r0 (o1 ++ post)) : ACallV P f args (o0 ++ post) K := by
 have hs : ∀ j, j < o0.length → sig (List.range' 0 o0.length) (o0 ++ post).length j = j := fun j hj => by
  rw [sig, if_pos (by simpa using hj), List.getD_eq_getElem?_getD, List.getElem?_range' hj]; simp
 refine ACallV.fr (List.range' 0 o0.length) h List.nodup_range' ?_ (renL_lt hs _ hwa).symm (by rw [List.length_range']; exact hwa) (fun j ob hj => by rw [List.length_range']; exact hw0 ob (List.mem_of_getElem? hj)) ?_
 ·have e : o0.map (fun x => some (x.map (AObj.ren (sig (List.range' 0 o0.length) (o0 ++ post).length)))) = o0.map some := by
   have h1 : o0.map some = (o0.map (Option.map (AObj.ren (sig (List.range' 0 o0.length) (o0 ++ post).length)))).map some := by rw [obs_id hs o0 hw0]
   rw [h1, List.map_map]; rfl
  rw [e]
  refine List.ext_getElem (by simp) fun j h1 h2 => ?_
  have hj : j < o0.length := by simpa using h2
  simp only [List.getElem_map, List.getElem_range', Nat.zero_add, Nat.one_mul]
  rw [List.getElem?_append_left hj, List.getElem?_eq_getElem hj]
 ·have e := putO_pre (sig (List.range' 0 o0.length) (o0 ++ post).length) o1 o0 [] post hl
  rw [List.length_nil, hl, List.nil_append, List.nil_append] at e
  rw [e, ren_lt hs r0 hr, obs_id hs o1 hw1]
  exact k
theorem ACallE.sub {P : Program} {f : FuncId} {args : List AV} {o0 o1 post : List (Option AObj)} {r0 : AV} {K : AV → List (Option AObj) → Prop} (h : CallE P f args o0 r0 o1) (hl : o1.length = o0.length)
  (hwa : wfL o0.length args = true) (hw0 : ∀ ob, some ob ∈ o0 → wfR o0.length ob.rows = true) (hw1 : ∀ ob, some ob ∈ o1 → wfR o0.length ob.rows = true) (hr : r0.wf o0.length = true) (k : K r0 (o1 ++ post)) : ACallE P f args (o0 ++ post) K := by
 have hs : ∀ j, j < o0.length → sig (List.range' 0 o0.length) (o0 ++ post).length j = j := fun j hj => by
  rw [sig, if_pos (by simpa using hj), List.getD_eq_getElem?_getD, List.getElem?_range' hj]; simp
 refine ACallE.fr (List.range' 0 o0.length) h List.nodup_range' ?_ (renL_lt hs _ hwa).symm (by rw [List.length_range']; exact hwa) (fun j ob hj => by rw [List.length_range']; exact hw0 ob (List.mem_of_getElem? hj)) ?_
 ·have e : o0.map (fun x => some (x.map (AObj.ren (sig (List.range' 0 o0.length) (o0 ++ post).length)))) = o0.map some := by
   have h1 : o0.map some = (o0.map (Option.map (AObj.ren (sig (List.range' 0 o0.length) (o0 ++ post).length)))).map some := by rw [obs_id hs o0 hw0]
   rw [h1, List.map_map]; rfl
  rw [e]
  refine List.ext_getElem (by simp) fun j h1 h2 => ?_
  have hj : j < o0.length := by simpa using h2
  simp only [List.getElem_map, List.getElem_range', Nat.zero_add, Nat.one_mul]
  rw [List.getElem?_append_left hj, List.getElem?_eq_getElem hj]
 ·have e := putO_pre (sig (List.range' 0 o0.length) (o0 ++ post).length) o1 o0 [] post hl
  rw [List.length_nil, hl, List.nil_append, List.nil_append] at e
  rw [e, ren_lt hs r0 hr, obs_id hs o1 hw1]
  exact k
section
variable {D : Nat → Prop} {nu : Nat → Nat → Value} {o : List (Option AObj)} {w : World} {P : Program}
theorem turn_frc {s : AS} {k i j id len : Nat} {ob ob2 : AObj} {row : List AV} (hne : id ≠ k) (hk : s.o[k]? = some (some ob)) (hz : 0 < ob.z) (hr : ob.rows[i]? = some row) (hj : row[j]? = some (.vec id len)) (ho : s.o[id]? = some (some ob2)) (hv : ob2.isV = true) (hl : ob2.rows.length = len) :
  Turn s (AS.mk s.t ((s.o.set id none).set k (some { ob with rows := ob.rows.set i (row.set j (.slc ob2.z ob2.rows len)) })) s.y) := by
 intro f D nu a w hs
 have hp := kill_mono (nu := nu) (o := s.o) (w := w) id
 have hro := kill_RO hs.ro id
 have hk' : (s.o.set id none)[k]? = some (some ob) := by rw [List.getElem?_set_ne hne]; exact hk
 have hh : ob.hl = ({ ob with rows := ob.rows.set i (row.set j (.slc ob2.z ob2.rows len)) } : AObj).hl := by simp [AObj.hl]
 obtain ⟨g, cur, hb⟩ : ∃ g cur, ROb D nu (s.o.set id none) w k ob g cur := by
  rcases hro.obj k ob hk' with ⟨_, e, _⟩ | h | ⟨g, es, cl, hm⟩
  ·rw [e] at hr; simp at hr
  ·exact h
  ·have := hm.z; omega
 have hm := set_mono (nu := nu) (o := s.o.set id none) (w := w) (w' := w) (ob' := { ob with rows := ob.rows.set i (row.set j (.slc ob2.z ob2.rows len)) }) hk' hh.symm hb.blkEq rfl rfl rfl rfl (fun _ _ => rfl)
 refine ⟨nu, hp.trans hm, rfl, ?_, (hs.tm.mono hp (fun _ _ h => h)).mono hm (fun _ _ h => h), hs.dfr⟩
 have hil := (List.getElem?_eq_some_iff.1 hr).1
 have hjl := (List.getElem?_eq_some_iff.1 hj).1
 have hsl := vec_slc hs.ro ho hv
 rw [hl] at hsl
 have key : ∀ (i' j' : Nat) r c, (ob.rows.set i (row.set j (.slc ob2.z ob2.rows len)))[i']? = some r → r[j']? = some c → ∃ r0 c0, ob.rows[i']? = some r0 ∧ r0[j']? = some c0 ∧ (c = c0 ∨ (c = .slc ob2.z ob2.rows len ∧ c0 = .vec id len)) := by
  intro i' j' r c h1 h2
  by_cases hi : i = i'
  ·subst hi
   rw [List.getElem?_set_self hil] at h1; cases h1
   by_cases hj' : j = j'
   ·subst hj'
    rw [List.getElem?_set_self hjl] at h2; cases h2
    exact ⟨row, _, hr, hj, .inr ⟨rfl, rfl⟩⟩
   ·rw [List.getElem?_set_ne hj'] at h2
    exact ⟨row, c, hr, h2, .inl rfl⟩
  ·rw [List.getElem?_set_ne hi] at h1
   exact ⟨r, c, h1, h2, .inl rfl⟩
 refine set_RO hro hk' hh.symm hb.blkEq hm (fun _ _ => rfl) (cur := cur) ⟨hb.blk, hb.dom, fun hv' => ?_, fun hv' => ?_, hb.z, fun i' r hi' => ?_, fun i' j' r c x h1 h2 h3 => ?_, fun i' j' r c x h1 h2 h3 => ?_⟩
 ·obtain ⟨q1, q2, q3⟩ := hb.box hv'
  exact ⟨q1, by simpa using q2, q3⟩
 ·obtain ⟨cap, q1, q2, q3, q4⟩ := hb.vec hv'
  exact ⟨cap, by simpa using q1, by simpa using q2, q3, q4⟩
 ·by_cases hi : i = i'
  ·subst hi
   rw [List.getElem?_set_self hil] at hi'; cases hi'
   rw [List.length_set]; exact hb.row i row hr
  ·rw [List.getElem?_set_ne hi] at hi'
   exact hb.row i' r hi'
 ·obtain ⟨r0, c0, k1, k2, e⟩ := key i' j' r c h1 h2
  have h0 := hb.cell i' j' r0 c0 x k1 k2 h3
  rcases e with rfl | ⟨rfl, rfl⟩
  ·exact h0.mono hm (fun _ _ h => h)
  ·have hx : x = nu id len := by
    cases h0 with
    | vec => rfl
   rw [hx]
   exact hsl.mono hm (fun _ _ h => h)
 ·obtain ⟨r0, c0, k1, k2, _⟩ := key i' j' r c h1 h2
  exact hb.one i' j' r0 c0 x k1 k2 h3
end
end Go.Proofs.YtmdkgajjekbanaaDoor

namespace Go.Proofs.YtmdkgajjekbanaaDoor

def kid (l : List Ex) (i : Nat) : Ex := l.getD i (.mk 0 ⟨#[]⟩ [])
theorem kid_eq {l : List Ex} {i : Nat} (h : i < l.length) : kid l i = l[i] := by rw [kid, List.getD_eq_getElem?_getD, List.getElem?_eq_getElem h]; rfl
theorem kid_zero (x : Ex) (l : List Ex) : kid (x :: l) 0 = x := rfl
theorem kid_succ (x : Ex) (l : List Ex) (i : Nat) : kid (x :: l) (i + 1) = kid l i := rfl
def bAt (b : Nat) (l : List Ex) (i : Nat) : Nat := b + (labEs (l.take i)).length
theorem bAt_zero (b : Nat) (l : List Ex) : bAt b l 0 = b := by simp [bAt, labEs]
theorem bAt_succ (b : Nat) (x : Ex) (l : List Ex) (i : Nat) : bAt b (x :: l) (i + 1) = bAt (b + (labE x).length) l i := by
 simp only [bAt, List.take_succ_cons, labEs, List.length_append]; omega
theorem FstA_ex : ∀ {l : List Ex} {b p : Nat}, FstA l b p ↔ ∃ i, i < l.length ∧ Fst (kid l i) (bAt b l i) p
 | [], b, p => by simp [FstA]
 | x :: l, b, p => by
  rw [FstA, FstA_ex (l := l)]
  constructor
  ·rintro (h | ⟨i, h1, h2⟩)
   ·exact ⟨0, by simp, by rw [kid_zero, bAt_zero]; exact h⟩
   ·exact ⟨i + 1, by simp; omega, by rw [kid_succ, bAt_succ]; exact h2⟩
  ·rintro ⟨i, h1, h2⟩
   cases i with
   | zero => left; rw [kid_zero, bAt_zero] at h2; exact h2
   | succ i => right; rw [kid_succ, bAt_succ] at h2; exact ⟨i, by simpa using h1, h2⟩
theorem LstA_ex : ∀ {l : List Ex} {b p : Nat}, LstA l b p ↔ ∃ i, i < l.length ∧ Lst (kid l i) (bAt b l i) p
 | [], b, p => by simp [LstA]
 | x :: l, b, p => by
  rw [LstA, LstA_ex (l := l)]
  constructor
  ·rintro (h | ⟨i, h1, h2⟩)
   ·exact ⟨0, by simp, by rw [kid_zero, bAt_zero]; exact h⟩
   ·exact ⟨i + 1, by simp; omega, by rw [kid_succ, bAt_succ]; exact h2⟩
  ·rintro ⟨i, h1, h2⟩
   cases i with
   | zero => left; rw [kid_zero, bAt_zero] at h2; exact h2
   | succ i => right; rw [kid_succ, bAt_succ] at h2; exact ⟨i, by simpa using h1, h2⟩
theorem FolA_ex : ∀ {l : List Ex} {b p q : Nat}, FolA l b p q ↔ ∃ i, i < l.length ∧ Fol (kid l i) (bAt b l i) p q
 | [], b, p, q => by simp [FolA]
 | x :: l, b, p, q => by
  rw [FolA, FolA_ex (l := l)]
  constructor
  ·rintro (h | ⟨i, h1, h2⟩)
   ·exact ⟨0, by simp, by rw [kid_zero, bAt_zero]; exact h⟩
   ·exact ⟨i + 1, by simp; omega, by rw [kid_succ, bAt_succ]; exact h2⟩
  ·rintro ⟨i, h1, h2⟩
   cases i with
   | zero => left; rw [kid_zero, bAt_zero] at h2; exact h2
   | succ i => right; rw [kid_succ, bAt_succ] at h2; exact ⟨i, by simpa using h1, h2⟩
theorem FstS_ex : ∀ {l : List Ex} {b p : Nat}, FstS l b p ↔ ∃ i, i < l.length ∧ (∀ k, k < i → exEmpty (kid l k) = true) ∧ Fst (kid l i) (bAt b l i) p
 | [], b, p => by simp [FstS]
 | x :: l, b, p => by
  rw [FstS, FstS_ex (l := l)]
  constructor
  ·rintro (h | ⟨he, i, h1, h2, h3⟩)
   ·exact ⟨0, by simp, fun k hk => by omega, by rw [kid_zero, bAt_zero]; exact h⟩
   ·refine ⟨i + 1, by simp; omega, fun k hk => ?_, by rw [kid_succ, bAt_succ]; exact h3⟩
    cases k with
    | zero => exact he
    | succ k => exact h2 k (by omega)
  ·rintro ⟨i, h1, h2, h3⟩
   cases i with
   | zero => left; rw [kid_zero, bAt_zero] at h3; exact h3
   | succ i =>
    right
    rw [kid_succ, bAt_succ] at h3
    exact ⟨h2 0 (by omega), i, by simpa using h1, fun k hk => h2 (k + 1) (by omega), h3⟩
theorem emAll_ex : ∀ {l : List Ex}, exEmAll l = true ↔ ∀ k, k < l.length → exEmpty (kid l k) = true
 | [] => by simp [exEmAll]
 | x :: l => by
  rw [exEmAll, Bool.and_eq_true, emAll_ex (l := l)]
  constructor
  ·rintro ⟨h, k⟩ j hj
   cases j with
   | zero => exact h
   | succ j => exact k j (by simpa using hj)
  ·intro h
   exact ⟨h 0 (by simp), fun k hk => h (k + 1) (by simp; omega)⟩
theorem LstS_ex : ∀ {l : List Ex} {b p : Nat}, LstS l b p ↔ ∃ i, i < l.length ∧ (∀ k, i < k → k < l.length → exEmpty (kid l k) = true) ∧ Lst (kid l i) (bAt b l i) p
 | [], b, p => by simp [LstS]
 | x :: l, b, p => by
  rw [LstS, LstS_ex (l := l), emAll_ex]
  constructor
  ·rintro (⟨he, h⟩ | ⟨i, h1, h2, h3⟩)
   ·refine ⟨0, by simp, fun k hk hl => ?_, by rw [kid_zero, bAt_zero]; exact h⟩
    cases k with
    | zero => omega
    | succ k => exact he k (by simpa using hl)
   ·refine ⟨i + 1, by simp; omega, fun k hk hl => ?_, by rw [kid_succ, bAt_succ]; exact h3⟩
    cases k with
    | zero => omega
    | succ k => exact h2 k (by omega) (by simpa using hl)
  ·rintro ⟨i, h1, h2, h3⟩
   cases i with
   | zero =>
    left; rw [kid_zero, bAt_zero] at h3
    exact ⟨fun k hk => h2 (k + 1) (by omega) (by simp; omega), h3⟩
   | succ i =>
    right
    rw [kid_succ, bAt_succ] at h3
    exact ⟨i, by simpa using h1, fun k hk hl => h2 (k + 1) (by omega) (by simp; omega), h3⟩
theorem FolS_ex : ∀ {l : List Ex} {b p q : Nat}, FolS l b p q ↔ (∃ i, i < l.length ∧ Fol (kid l i) (bAt b l i) p q) ∨ ∃ i k, i < k ∧ k < l.length ∧ (∀ j, i < j → j < k → exEmpty (kid l j) = true) ∧ Lst (kid l i) (bAt b l i) p ∧ Fst (kid l k) (bAt b l k) q
 | [], b, p, q => by simp [FolS]
 | x :: l, b, p, q => by
  rw [FolS, FolS_ex (l := l), FstS_ex]
  constructor
  ·rintro (h | (⟨i, h1, h2⟩ | ⟨i, k, h1, h2, h3, h4, h5⟩) | ⟨h, k, h1, h2, h3⟩)
   ·exact .inl ⟨0, by simp, by rw [kid_zero, bAt_zero]; exact h⟩
   ·exact .inl ⟨i + 1, by simp; omega, by rw [kid_succ, bAt_succ]; exact h2⟩
   ·refine .inr ⟨i + 1, k + 1, by omega, by simp; omega, fun j j1 j2 => ?_, by rw [kid_succ, bAt_succ]; exact h4, by rw [kid_succ, bAt_succ]; exact h5⟩
    cases j with
    | zero => omega
    | succ j => exact h3 j (by omega) (by omega)
   ·refine .inr ⟨0, k + 1, by omega, by simp; omega, fun j j1 j2 => ?_, by rw [kid_zero, bAt_zero]; exact h, by rw [kid_succ, bAt_succ]; exact h3⟩
    cases j with
    | zero => omega
    | succ j => exact h2 j (by omega)
  ·rintro (⟨i, h1, h2⟩ | ⟨i, k, h1, h2, h3, h4, h5⟩)
   ·cases i with
    | zero => left; rw [kid_zero, bAt_zero] at h2; exact h2
    | succ i => right; left; left; rw [kid_succ, bAt_succ] at h2; exact ⟨i, by simpa using h1, h2⟩
   ·cases k with
    | zero => omega
    | succ k =>
     rw [kid_succ, bAt_succ] at h5
     cases i with
     | zero =>
      right; right
      rw [kid_zero, bAt_zero] at h4
      exact ⟨h4, k, by simpa using h2, fun j hj => h3 (j + 1) (by omega) (by omega), h5⟩
     | succ i =>
      right; left; right
      rw [kid_succ, bAt_succ] at h4
      exact ⟨i, k, by omega, by simpa using h2, fun j j1 j2 => h3 (j + 1) (by omega) (by omega), h4, h5⟩
/-! ### as they are reckoned: kids' rows F, L, whether each is empty; s: a sequence -/
section
variable (s : Bool) (m : Nat) (Em : Nat → Bool) (F L : Nat → Nat → Bool)
def ahAt (i k : Nat) : Bool := (List.range k).all fun j => !s || Em j
def bhAt (i k : Nat) : Bool := (List.range k).all fun j => decide (j ≤ i) || (!s || Em j)
def fiAt (i q : Nat) : Bool := (List.range i).any fun j => ahAt s Em j j && F j q
def laAt (i q : Nat) : Bool := (List.range i).any fun j => bhAt s Em j m && L j q
def btAt (i k : Nat) : Bool := s && (List.range k).all fun j => decide (j ≤ i) || Em j
def lnAt (i k p q : Nat) : Bool := (List.range k).any fun j => decide (i < j) && btAt s Em i j && (L i p && F j q)
def foAt (i p q : Nat) : Bool := (List.range i).any fun j => lnAt s Em F L j m p q
theorem ahAt_succ (i k : Nat) : ahAt s Em i (k + 1) = (ahAt s Em i k && (!s || Em k)) := by rw [ahAt, List.range_succ, List.all_append]; simp [ahAt]
theorem bhAt_succ {i k : Nat} (h : i < k) : bhAt s Em i (k + 1) = (bhAt s Em i k && (!s || Em k)) := by
 rw [bhAt, List.range_succ, List.all_append]
 have : decide (k ≤ i) = false := decide_eq_false (by omega)
 simp [bhAt, this]
theorem bhAt_beg (i : Nat) : bhAt s Em i (i + 1) = true := by
 rw [bhAt, List.all_eq_true]
 intro x hx
 have := List.mem_range.1 hx
 simp; omega
theorem fiAt_succ (i q : Nat) : fiAt s Em F (i + 1) q = (fiAt s Em F i q || (ahAt s Em i i && F i q)) := by rw [fiAt, List.range_succ, List.any_append]; simp [fiAt]
theorem laAt_succ (i q : Nat) : laAt s m Em L (i + 1) q = (laAt s m Em L i q || (bhAt s Em i m && L i q)) := by rw [laAt, List.range_succ, List.any_append]; simp [laAt]
theorem btAt_succ {i k : Nat} (h : i < k) : btAt s Em i (k + 1) = (btAt s Em i k && Em k) := by
 rw [btAt, List.range_succ, List.all_append]
 have : decide (k ≤ i) = false := decide_eq_false (by omega)
 simp [btAt, this, Bool.and_assoc]
theorem btAt_beg (i : Nat) : btAt s Em i (i + 1) = s := by
 have : ((List.range (i + 1)).all fun j => decide (j ≤ i) || Em j) = true := by
  rw [List.all_eq_true]; intro x hx; have := List.mem_range.1 hx; simp; omega
 rw [btAt, this, Bool.and_true]
theorem lnAt_succ {i k p q : Nat} (h : i < k) : lnAt s Em F L i (k + 1) p q = (lnAt s Em F L i k p q || (btAt s Em i k && (L i p && F k q))) := by
 rw [lnAt, List.range_succ, List.any_append]
 simp [lnAt, h]
theorem lnAt_beg (i p q : Nat) : lnAt s Em F L i (i + 1) p q = false := by
 rw [lnAt, List.any_eq_false]
 intro x hx
 have := List.mem_range.1 hx
 have : decide (i < x) = false := decide_eq_false (by omega)
 simp [this]
theorem bt_stop {i k j : Nat} (hk : i < k) (h : btAt s Em i k = false) (hj : k ≤ j) : btAt s Em i j = false := by
 induction j with
 | zero => omega
 | succ j ih =>
  rcases Nat.lt_or_ge j k with h1 | h1
  ·obtain rfl : j + 1 = k := by omega
   exact h
  ·rw [btAt_succ s Em (by omega), ih h1, Bool.false_and]
theorem ln_stop {i k j p q : Nat} (hk : i < k) (h : btAt s Em i k = false) (hj : k ≤ j) : lnAt s Em F L i j p q = lnAt s Em F L i k p q := by
 induction j with
 | zero => omega
 | succ j ih =>
  rcases Nat.lt_or_ge j k with h1 | h1
  ·obtain rfl : j + 1 = k := by omega
   rfl
  ·rw [lnAt_succ s Em F L (by omega), ih h1, bt_stop s Em hk h h1, Bool.false_and, Bool.or_false]
theorem foAt_succ (i p q : Nat) : foAt s m Em F L (i + 1) p q = (foAt s m Em F L i p q || lnAt s Em F L i m p q) := by rw [foAt, List.range_succ, List.any_append]; simp [foAt]
end
/-! ### they are what they must be -/
theorem fiAt_iff {s : Bool} {m : Nat} {Em : Nat → Bool} {F : Nat → Nat → Bool} {q : Nat} : fiAt s Em F m q = true ↔ ∃ i, i < m ∧ (s = true → ∀ k, k < i → Em k = true) ∧ F i q = true := by
 simp only [fiAt, List.any_eq_true, List.mem_range, Bool.and_eq_true, ahAt, List.all_eq_true, Bool.or_eq_true, Bool.not_eq_true']
 constructor
 ·rintro ⟨i, h1, h2, h3⟩
  exact ⟨i, h1, fun hs k hk => (h2 k hk).elim (fun e => by rw [hs] at e; cases e) id, h3⟩
 ·rintro ⟨i, h1, h2, h3⟩
  refine ⟨i, h1, fun k hk => ?_, h3⟩
  cases hs : s
  ·exact .inl rfl
  ·exact .inr (h2 hs k hk)
theorem laAt_iff {s : Bool} {m : Nat} {Em : Nat → Bool} {L : Nat → Nat → Bool} {q : Nat} : laAt s m Em L m q = true ↔ ∃ i, i < m ∧ (s = true → ∀ k, i < k → k < m → Em k = true) ∧ L i q = true := by
 simp only [laAt, List.any_eq_true, List.mem_range, Bool.and_eq_true, bhAt, List.all_eq_true, Bool.or_eq_true, Bool.not_eq_true', decide_eq_true_eq]
 constructor
 ·rintro ⟨i, h1, h2, h3⟩
  exact ⟨i, h1, fun hs k hk hl => (h2 k hl).elim (fun e => by omega) (fun e => e.elim (fun e => by rw [hs] at e; cases e) id), h3⟩
 ·rintro ⟨i, h1, h2, h3⟩
  refine ⟨i, h1, fun k hk => ?_, h3⟩
  rcases Nat.lt_or_ge i k with h | h
  ·right
   cases hs : s
   ·exact .inl rfl
   ·exact .inr (h2 hs k h hk)
  ·exact .inl h
theorem foAt_iff {s : Bool} {m : Nat} {Em : Nat → Bool} {F L : Nat → Nat → Bool} {p q : Nat} : foAt s m Em F L m p q = true ↔ s = true ∧ ∃ i k, i < k ∧ k < m ∧ (∀ j, i < j → j < k → Em j = true) ∧ L i p = true ∧ F k q = true := by
 simp only [foAt, lnAt, btAt, List.any_eq_true, List.mem_range, Bool.and_eq_true, List.all_eq_true, Bool.or_eq_true, decide_eq_true_eq]
 constructor
 ·rintro ⟨i, h1, k, h2, ⟨h3, h4, h5⟩, h6, h7⟩
  exact ⟨h4, i, k, h3, h2, fun j j1 j2 => (h5 j j2).elim (fun e => by omega) id, h6, h7⟩
 ·rintro ⟨h1, i, k, h2, h3, h4, h5, h6⟩
  refine ⟨i, by omega, k, h3, ⟨h2, h1, fun j hj => ?_⟩, h5, h6⟩
  rcases Nat.lt_or_ge i j with h | h
  ·exact .inr (h4 j h hj)
  ·exact .inl h
end Go.Proofs.YtmdkgajjekbanaaDoor
