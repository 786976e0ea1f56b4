/- DfaTakes: the plain law of the rounds. -/
import Derived.Test.YtfflpdekojlnmaaGreatDoorTLaw09
set_option linter.unusedSimpArgs false
set_option linter.unusedVariables false
namespace Go.Proofs.YtfflpdekojlnmaaGreatDoor
open Go.RowKit

theorem gRun_app (rows : List LRow) : ∀ (u v : List ByteArray) (s : Nat), gRun rows s (u ++ v) = (gRun rows s u).bind (fun t => gRun rows t v)
 | [], v, s => rfl
 | l :: u, v, s => by
  rw [List.cons_append, gRun, gRun]
  cases look (rows.getD s []) l with
  | none => rfl
  | some t => exact gRun_app rows u v t
theorem gRun_lt {A : ADt} (ok : AOk A) : ∀ (w : List ByteArray) {s t : Nat}, s < A.rows.length → gRun A.rows s w = some t → t < A.rows.length
 | [], s, t, hs, h => by rw [gRun] at h; cases h; exact hs
 | l :: w, s, t, hs, h => by
  rw [gRun] at h
  cases hl : look (A.rows.getD s []) l with
  | none => rw [hl] at h; cases h
  | some u =>
   rw [hl] at h
   exact gRun_lt ok w ((ok.row _ (getD_mem hs)).2 _ (look_mem hl)) h
theorem short {A : ADt} (ok : AOk A) {s : Nat} (hs : s < A.rows.length) : ∀ (m : Nat) (w : List ByteArray), w.length ≤ m → gTakes A.rows A.ends s w = true → ∃ w', w'.length < A.rows.length ∧ gTakes A.rows A.ends s w' = true
 | 0, w, hm, h => ⟨w, by have := ok.pos; omega, h⟩
 | m + 1, w, hm, h => by
  by_cases hw : w.length < A.rows.length
  ·exact ⟨w, hw, h⟩
  ·have hdef : ∀ i, ∃ p, i ≤ w.length → (gRun A.rows s (w.take i) = some p ∧ p < A.rows.length) := fun i => by
    by_cases hi : i ≤ w.length
    ·cases hr : gRun A.rows s (w.take i) with
     | some p => exact ⟨p, fun _ => ⟨rfl, gRun_lt ok _ hs hr⟩⟩
     | none =>
      exfalso
      rw [gTakes, ← List.take_append_drop i w, gRun_app, hr] at h
      cases h
    ·exact ⟨0, fun k => absurd k hi⟩
   obtain ⟨f, hf⟩ : ∃ f : Nat → Nat, ∀ i, i ≤ w.length → (gRun A.rows s (w.take i) = some (f i) ∧ f i < A.rows.length) := ⟨fun i => (hdef i).choose, fun i => (hdef i).choose_spec⟩
   by_cases hinj : ∀ a b, a < A.rows.length + 1 → b < A.rows.length + 1 → f a = f b → a = b
   ·exact absurd (inj_le (A.rows.length + 1) A.rows.length f (fun a ha => (hf a (by omega)).2) (fun a b ha hb => hinj a b ha hb)) (by omega)
   ·obtain ⟨i, j, hi, hj, he, hij⟩ : ∃ i j, i < A.rows.length + 1 ∧ j < A.rows.length + 1 ∧ f i = f j ∧ i < j := by
     simp only [Classical.not_forall] at hinj
     obtain ⟨a, b, ha, hb, he, hne⟩ := hinj
     rcases Nat.lt_or_gt_of_ne hne with q | q
     ·exact ⟨a, b, ha, hb, he, q⟩
     ·exact ⟨b, a, hb, ha, he.symm, q⟩
    refine short ok hs m (w.take i ++ w.drop j) (by rw [List.length_append, List.length_take, List.length_drop]; omega) ?_
    rw [gTakes, gRun_app, (hf i (by omega)).1, he]
    rw [gTakes, ← List.take_append_drop j w, gRun_app, (hf j (by omega)).1] at h
    exact h
/-! ### rounds -/
def encB (l : List Bool) : List (List AV) := l.map (fun b => [.v (.bool b)])
theorem encB_len (l : List Bool) : (encB l).length = l.length := by simp [encB]
@[go_sem] theorem wf_encB (n : Nat) (l : List Bool) : wfR n (encB l) = true := wfR_map _ (fun _ => rfl) _
theorem encB_get (l : List Bool) {i : Nat} (h : i < l.length) : (encB l).getD i [] = [.v (.bool (l.getD i false))] := by
 rw [encB, List.getD_eq_getElem?_getD, List.getElem?_map, List.getElem?_eq_getElem h, List.getD_eq_getElem?_getD, List.getElem?_eq_getElem h]; rfl
theorem encB_set (l : List Bool) (i : Nat) (b : Bool) : (encB l).set i [.v (.bool b)] = encB (l.set i b) := by rw [encB, encB, List.map_set]
theorem set_get (l : List Bool) (i j : Nat) (b : Bool) (h : i < l.length) : (l.set i b).getD j false = if i = j then b else l.getD j false := by
 rw [List.getD_eq_getElem?_getD, List.getElem?_set]
 by_cases hij : i = j
 ·subst hij; simp [h]
 ·simp [hij]
def Dn (A : ADt) (r : Nat) (E : List Bool) (i : Nat) : Prop := (∃ w, w.length < r ∧ gTakes A.rows A.ends i w = true) → E.getD i false = true
structure RndO (A : ADt) (r : Nat) (E : List Bool) : Prop where
 len : E.length = A.rows.length
 le : r ≤ A.rows.length + 1
 dn : ∀ i, i < A.rows.length → Dn A r E i
structure RndM (A : ADt) (r : Nat) (E0 : List Bool) (s : Nat) (E : List Bool) : Prop where
 len : E.length = A.rows.length
 le : s ≤ A.rows.length
 mono : ∀ i, E0.getD i false = true → E.getD i false = true
 dn : ∀ i, i < s → Dn A (r + 1) E i
structure RndI (A : ADt) (r : Nat) (E0 : List Bool) (s k : Nat) (E : List Bool) : Prop extends RndM A r E0 s E where
 lek : k ≤ A.labs.length
 tk : A.ends.getD s false = true → E.getD s false = true
 lb : ∀ j, j < k → ∀ t, look (A.rows.getD s []) (A.labs.getD j ⟨#[]⟩) = some t → E0.getD t false = true → E.getD s false = true
theorem RndO.zero (A : ADt) : RndO A 0 (List.replicate A.rows.length false) := ⟨by simp, by omega, fun i _ ⟨w, h, _⟩ => absurd h (Nat.not_lt_zero _)⟩
theorem RndO.start {A : ADt} {r : Nat} {E : List Bool} (h : RndO A r E) : RndM A r E 0 E := ⟨h.len, Nat.zero_le _, fun i h => h, fun i h => absurd h (Nat.not_lt_zero _)⟩
theorem RndM.fin {A : ADt} {r : Nat} {E0 E : List Bool} (hr : r ≤ A.rows.length) (h : RndM A r E0 A.rows.length E) : RndO A (r + 1) E := ⟨h.len, by omega, h.dn⟩
theorem RndM.own {A : ADt} {r s : Nat} {E0 E : List Bool} (h : RndM A r E0 s E) (hs : s < A.rows.length) : RndI A r E0 s 0 (E.set s (E.getD s false || A.ends.getD s false)) := by
 have hl : s < E.length := by rw [h.len]; exact hs
 refine ⟨⟨by rw [List.length_set]; exact h.len, h.le, fun i hi => ?_, fun i hi => fun hw => ?_⟩, Nat.zero_le _, fun he => ?_, fun j hj => absurd hj (Nat.not_lt_zero _)⟩
 ·rw [set_get _ _ _ _ hl]
  by_cases e : s = i
  ·subst e; rw [if_pos rfl, h.mono _ hi, Bool.true_or]
  ·rw [if_neg e]; exact h.mono i hi
 ·rw [set_get _ _ _ _ hl, if_neg (by omega)]; exact h.dn i hi hw
 ·rw [set_get _ _ _ _ hl, if_pos rfl, he, Bool.or_true]
theorem RndI.step {A : ADt} {r s k : Nat} {E0 E : List Bool} (h : RndI A r E0 s k E) (hs : s < A.rows.length) (hk : k < A.labs.length) : RndI A r E0 s (k + 1) (E.set s (E.getD s false || match look (A.rows.getD s []) (A.labs.getD k ⟨#[]⟩) with | some t => E.getD t false | none => false)) := by
 have hl : s < E.length := by rw [h.len]; exact hs
 have up : ∀ (b : Bool), E.getD s false = true → (E.set s (E.getD s false || b)).getD s false = true := fun b hb => by
  rw [set_get _ _ _ _ hl, if_pos rfl, hb, Bool.true_or]
 refine ⟨⟨by rw [List.length_set]; exact h.len, h.le, fun i hi => ?_, fun i hi => fun hw => ?_⟩, hk, fun he => up _ (h.tk he), fun j hj t ht h0 => ?_⟩
 ·rw [set_get _ _ _ _ hl]
  by_cases e : s = i
  ·subst e; rw [if_pos rfl, h.mono _ hi, Bool.true_or]
  ·rw [if_neg e]; exact h.mono i hi
 ·rw [set_get _ _ _ _ hl, if_neg (by omega)]; exact h.dn i hi hw
 ·rcases Nat.lt_succ_iff_lt_or_eq.1 hj with q | rfl
  ·exact up _ (h.lb j q t ht h0)
  ·rw [ht, set_get _ _ _ _ hl, if_pos rfl]
   show (_ || E.getD t false) = true
   rw [h.mono t h0, Bool.or_true]
theorem RndI.fin {A : ADt} (ok : AOk A) {r s : Nat} {E0 E : List Bool} (h0 : RndO A r E0) (h : RndI A r E0 s A.labs.length E) (hs : s < A.rows.length) : RndM A r E0 (s + 1) E := by
 refine ⟨h.len, hs, h.mono, fun i hi => ?_⟩
 rcases Nat.lt_succ_iff_lt_or_eq.1 hi with q | rfl
 ·exact h.dn i q
 ·rintro ⟨w, hw, ht⟩
  cases w with
  | nil => exact h.tk ht
  | cons l w =>
   rw [gTakes_cons] at ht
   cases hl : look (A.rows.getD i []) l with
   | none => rw [hl] at ht; cases ht
   | some t =>
    rw [hl] at ht
    have hm := look_mem hl
    obtain ⟨q1, q2⟩ := ok.row _ (getD_mem (d := []) hs)
    have hlm : l ∈ A.labs := q1.subset (List.mem_map_of_mem (f := Prod.fst) hm)
    obtain ⟨j, hj, e⟩ := List.getElem_of_mem hlm
    refine h.lb j hj t ?_ (h0.dn t (q2 _ hm) ⟨w, by simpa using hw, ht⟩)
    have eg : A.labs.getD j ⟨#[]⟩ = l := by rw [List.getD_eq_getElem?_getD, List.getElem?_eq_getElem hj, Option.getD_some, e]
    rw [eg]; exact hl
theorem RndO.all {x : Ex} {A : ADt} (L : ALaw' x A) {E : List Bool} (h : RndO A (A.rows.length + 1) E) {s : Nat} (hs : s < A.rows.length) : E.getD s false = true := by
 obtain ⟨w, hw⟩ := L.alive s hs
 obtain ⟨w', h1, h2⟩ := short L.toAOk hs w.length w (Nat.le_refl _) hw
 exact h.dn s hs ⟨w', by omega, h2⟩
end Go.Proofs.YtfflpdekojlnmaaGreatDoor
